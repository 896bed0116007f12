/-
  Entries and their parts: how they are read; their lists are cloned (layer 21).
-/
import Derived.Test.YtjfhpafaopeogaaBytesClone2
import Derived.BigQuiet
import Derived.Deep.QuietTactic
import Derived.Deep.RegionLaw
import Derived.Deep.RegionWith
import Derived.Deep.RegionHeld3
import Derived.Deep.DeepCutAuto
namespace Go.Proofs.Ytjfhpafaopeogaa
open Go.RowKit

structure OpV where
  set : Bool
  name : ByteArray
  id : Int
structure CaV where
  kind : Int
  id : Int
structure EnV where
  kind : Int
  hide : Bool
  frm : ByteArray
  dst : ByteArray
  good : List OpV
  bad : List OpV
  cache : List CaV
  reply : List UInt8

def OpS : Rd OpV := fun _ _ cs x => cs = [.bool x.set, .string x.name, .int .i64 x.id]
def CaS : Rd CaV := fun _ _ cs x => cs = [.int .i64 x.kind, .int .i64 x.id]
theorem OpS.still : Still OpS := fun _ _ _ _ _ _ h _ => h
theorem CaS.still : Still CaS := fun _ _ _ _ _ _ h _ => h
theorem OpS.one (S : Nat → Prop) (w : World) (cs : List Value) (x : OpV) (h : OpS S w cs x) : ∀ u ∈ cs, u.oneCell' = true := by
  unfold OpS at h
  subst h
  intro u hu
  simp only [List.mem_cons, List.not_mem_nil, or_false] at hu
  rcases hu with rfl | rfl | rfl <;> rfl
theorem CaS.one (S : Nat → Prop) (w : World) (cs : List Value) (x : CaV) (h : CaS S w cs x) : ∀ u ∈ cs, u.oneCell' = true := by
  unfold CaS at h
  subst h
  intro u hu
  simp only [List.mem_cons, List.not_mem_nil, or_false] at hu
  rcases hu with rfl | rfl <;> rfl

/-- Where an entry's lists lie. -/
structure EnP where
  pg : Option Addr
  cg : Nat
  pb : Option Addr
  cb : Nat
  pc : Option Addr
  cc : Nat
  pr : Option Addr
  cr : Nat

def enCells (x : EnV) (a : EnP) : List Value := [.int .i64 x.kind, .bool x.hide, .string x.frm, .string x.dst, .slice a.pg x.good.length a.cg, .slice a.pb x.bad.length a.cb, .slice a.pc x.cache.length a.cc, .slice a.pr x.reply.length a.cr]

/-- An entry's lists are read. -/
structure EnL (S : Nat → Prop) (w : World) (x : EnV) (a : EnP) : Prop where
  good : SliceS 3 OpS S w [.slice a.pg x.good.length a.cg] x.good
  bad : SliceS 3 OpS S w [.slice a.pb x.bad.length a.cb] x.bad
  cache : SliceS 2 CaS S w [.slice a.pc x.cache.length a.cc] x.cache
  reply : BytesS S w [.slice a.pr x.reply.length a.cr] x.reply

theorem EnL.keep {S S' : Nat → Prop} {w w' : World} {x : EnV} {a : EnP} (h : EnL S w x a) (hk : Kept S S' w w') : EnL S' w' x a :=
  ⟨(SliceS.still OpS.still) _ _ _ _ _ _ h.good hk, (SliceS.still OpS.still) _ _ _ _ _ _ h.bad hk, (SliceS.still CaS.still) _ _ _ _ _ _ h.cache hk, BytesS.still _ _ _ _ _ _ h.reply hk⟩

def EnS : Rd EnV := fun S w cs x => ∃ a, cs = enCells x a ∧ EnL S w x a
theorem EnS.still : Still EnS := by
  rintro S S' w w' cs x ⟨a, rfl, h⟩ hk
  exact ⟨a, rfl, h.keep hk⟩
theorem EnS.one (S : Nat → Prop) (w : World) (cs : List Value) (x : EnV) (h : EnS S w cs x) : ∀ u ∈ cs, u.oneCell' = true := by
  obtain ⟨a, rfl, _⟩ := h
  intro u hu
  simp only [enCells, List.mem_cons, List.not_mem_nil, or_false] at hu
  rcases hu with rfl | rfl | rfl | rfl | rfl | rfl | rfl | rfl <;> rfl

theorem opensS_op : OpensS Try.prog 55 OpS := by
  intro H enc w base spare held fuel cs x h
  have S : StructOf Try.prog 55 _ := ⟨Try.underlying55, by kernel_rfl, by kernel_rfl⟩
  have hl := S.len h
  match cs, hl with
  | [c0, c1, c2], _ =>
    obtain ⟨y0, e0⟩ := S.field h 0 _ rfl c0 rfl (opens_bool Try.underlying4)
    obtain ⟨y1, e1, _⟩ := S.field h 1 _ rfl c1 rfl (opens_str Try.underlying9)
    obtain ⟨y2, e2, _⟩ := S.field h 2 _ rfl c2 rfl (opens_int Try.underlying3)
    unfold BoolR at e0
    simp only [List.cons.injEq, and_true] at e0 e1 e2
    subst e0 e1 e2
    exact ⟨⟨y0, y1, y2⟩, rfl⟩
theorem opensS_ca : OpensS Try.prog 132 CaS := by
  intro H enc w base spare held fuel cs x h
  have S : StructOf Try.prog 132 _ := ⟨Try.underlying132, by kernel_rfl, by kernel_rfl⟩
  have hl := S.len h
  match cs, hl with
  | [c0, c1], _ =>
    obtain ⟨y0, e0, _⟩ := S.field h 0 _ rfl c0 rfl (opens_int Try.underlying3)
    obtain ⟨y1, e1, _⟩ := S.field h 1 _ rfl c1 rfl (opens_int Try.underlying3)
    simp only [List.cons.injEq, and_true] at e0 e1
    subst e0 e1
    exact ⟨⟨y0, y1⟩, rfl⟩

theorem SliceS.shape {α : Type} {n : Nat} {R : Rd α} {S : Nat → Prop} {w : World} {v : Value} {xs : List α} (h : SliceS n R S w [v] xs) : ∃ p c, v = .slice p xs.length c := by
  obtain ⟨p, c, _, h1, _⟩ := h
  simp only [List.cons.injEq, and_true] at h1
  exact ⟨p, c, h1⟩
theorem BytesS.shape {S : Nat → Prop} {w : World} {v : Value} {xs : List UInt8} (h : BytesS S w [v] xs) : ∃ p c, v = .slice p xs.length c := by
  obtain ⟨p, c, h1, _⟩ := h
  simp only [List.cons.injEq, and_true] at h1
  exact ⟨p, c, h1⟩

theorem opensS_en : OpensS Try.prog 52 EnS := by
  intro H enc w base spare held fuel cs x h
  have S : StructOf Try.prog 52 _ := ⟨Try.underlying52, by kernel_rfl, by kernel_rfl⟩
  have hl := S.len h
  match cs, hl with
  | [c0, c1, c2, c3, c4, c5, c6, c7], _ =>
    obtain ⟨y0, e0, _⟩ := S.field h 0 _ rfl c0 rfl (opens_int Try.underlying3)
    obtain ⟨y1, e1⟩ := S.field h 1 _ rfl c1 rfl (opens_bool Try.underlying4)
    obtain ⟨y2, e2, _⟩ := S.field h 2 _ rfl c2 rfl (opens_str Try.underlying9)
    obtain ⟨y3, e3, _⟩ := S.field h 3 _ rfl c3 rfl (opens_str Try.underlying9)
    obtain ⟨y4, h4⟩ := S.field h 4 _ rfl c4 rfl (opensS_slice (n := 3) Try.underlying22 (by kernel_rfl) (by omega) opensS_op)
    obtain ⟨y5, h5⟩ := S.field h 5 _ rfl c5 rfl (opensS_slice (n := 3) Try.underlying22 (by kernel_rfl) (by omega) opensS_op)
    obtain ⟨y6, h6⟩ := S.field h 6 _ rfl c6 rfl (opensS_slice (n := 2) Try.underlying49 (by kernel_rfl) (by omega) opensS_ca)
    obtain ⟨y7, h7⟩ := S.field h 7 _ rfl c7 rfl (opensS_bytes Try.underlying50 Try.underlying5 (by kernel_rfl))
    obtain ⟨pg, cg, rfl⟩ := SliceS.shape h4
    obtain ⟨pb, cb, rfl⟩ := SliceS.shape h5
    obtain ⟨pc, cc, rfl⟩ := SliceS.shape h6
    obtain ⟨pr, cr, rfl⟩ := BytesS.shape h7
    unfold BoolR at e1
    simp only [List.cons.injEq, and_true] at e0 e1 e2 e3
    subst e0 e1 e2 e3
    exact ⟨⟨y0, y1, y2, y3, y4, y5, y6, y7⟩, ⟨pg, cg, pb, cb, pc, cc, pr, cr⟩, rfl, h4, h5, h6, h7⟩

theorem opensS_ens : OpensS Try.prog 23 (SliceS 8 EnS) := opensS_slice Try.underlying23 (by kernel_rfl) (by omega) opensS_en

theorem Try.info55 : (Try.prog.info? 55).map (fun i => (i.zero, i.size, i.bytes)) = some (some (.agg #[.bool false, .string ⟨#[]⟩, .int .i64 0]), 3, 32) := by kernel_rfl
theorem Try.info132 : (Try.prog.info? 132).map (fun i => (i.zero, i.size, i.bytes)) = some (some (.agg #[.int .i64 0, .int .i64 0]), 2, 16) := by kernel_rfl
theorem Try.info52 : (Try.prog.info? 52).map (fun i => (i.zero, i.size, i.bytes)) = some (some (.agg #[.int .i64 0, .bool false, .string ⟨#[]⟩, .string ⟨#[]⟩, .slice none 0 0, .slice none 0 0, .slice none 0 0, .slice none 0 0]), 8, 144) := by kernel_rfl
theorem info_op : ∃ i z, Try.prog.info? 55 = some i ∧ i.zero = some z ∧ i.size = 3 ∧ i.bytes = 32 ∧ z.cells.size = 3 := by
  obtain ⟨i0, hi, hz0, hz1, hz2⟩ := info_parts Try.info55
  exact ⟨i0, _, hi, hz0, hz1, hz2, rfl⟩
theorem info_ca : ∃ i z, Try.prog.info? 132 = some i ∧ i.zero = some z ∧ i.size = 2 ∧ i.bytes = 16 ∧ z.cells.size = 2 := by
  obtain ⟨i0, hi, hz0, hz1, hz2⟩ := info_parts Try.info132
  exact ⟨i0, _, hi, hz0, hz1, hz2, rfl⟩
theorem info_en : ∃ i z, Try.prog.info? 52 = some i ∧ i.zero = some z ∧ i.size = 8 ∧ i.bytes = 144 ∧ z.cells.size = 8 := by
  obtain ⟨i0, hi, hz0, hz1, hz2⟩ := info_parts Try.info52
  exact ⟨i0, _, hi, hz0, hz1, hz2, rfl⟩

theorem OwnS.below' {α : Type} {B : Nat} {e : TypeId} {n : Nat} {R : Rd α} {S : Nat → Prop} {w w' : World} {v : Value} {xs : List α} (hR : Still R) (h : OwnS B e n R S w v xs) (hb : Below w.heap.size w w') : OwnS B e n R S w' v xs :=
  h.touch hR (Touch.of_below (p := fun _ => False) hb) (fun _ _ e => e) (fun _ _ hs _ => ⟨hs, fun e => e⟩)

theorem SliceS.nilLen {α : Type} {n : Nat} {R : Rd α} {S : Nat → Prop} {w : World} {m c : Nat} {xs : List α} (h0 : 0 < n) (h : SliceS n R S w [.slice none m c] xs) : xs = [] := by
  cases xs with
  | nil => rfl
  | cons x xs =>
    obtain ⟨b, o, cs, e, _⟩ := h.elem h0 0 x rfl
    cases e

theorem SliceS.len {α : Type} {n : Nat} {R : Rd α} {S : Nat → Prop} {w : World} {p : Option Addr} {m c : Nat} {xs : List α} (h : SliceS n R S w [.slice p m c] xs) : m = xs.length ∧ xs.length ≤ c ∧ c ≤ maxLen := by
  obtain ⟨p', c', css, h1, h2, h3, _, _⟩ := h
  simp only [List.cons.injEq, Value.slice.injEq, and_true] at h1
  obtain ⟨rfl, rfl, rfl⟩ := h1
  exact ⟨rfl, h2, h3⟩

theorem SliceS.below {α : Type} {n : Nat} {R : Rd α} (hR : Still R) {S : Nat → Prop} {w w' : World} {cs : List Value} {xs : List α} (h : SliceS n R S w cs xs) (hb : Below w.heap.size w w') : SliceS n R S w' cs xs := (SliceS.still hR) _ _ _ _ _ _ h (Kept.all hb)

theorem SliceS.weak {α : Type} {n : Nat} {R : Rd α} (hR : Still R) {S S' : Nat → Prop} {w : World} {cs : List Value} {xs : List α} (h : SliceS n R S w cs xs) (hS : ∀ k, k < w.heap.size → S k → S' k) : SliceS n R S' w cs xs := (SliceS.still hR) _ _ _ _ _ _ h (Kept.mono w hS)


/-- slices.Clone at api.TableOp. -/
theorem clone_ops (S : Nat → Prop) (p : Option Addr) (m c : Nat) (xs : List OpV) (w : World) (h : SliceS 3 OpS S w [.slice p m c] xs) (hl : xs.length ≤ 100000000) :
    Calls Try.prog 129 #[.slice p m c] w fun e w' => ∃ v, e = .returned v ∧ OwnS w.heap.size 55 3 OpS S w' v xs ∧ Below w.heap.size w w' := by
  have q22 : ∀ (w : World) (a : Option Addr) (n c n' c' : Nat), (binOp .eql 22 (.slice a n c) (.slice none n' c')).run Try.prog w = .ok (.bool a.isNone) w :=
    fun w a n c n' c' => Lib.run_eql_slice_nil w _ _ a n c n' c' Try.underlying22
  obtain ⟨rfl, hlc, hcm⟩ := h.len
  have H := Lib.hid (SliceS.below OpS.still h ((Below.refl _ _).alloc (Nat.le_refl _) (.cells #[] 55)))
  cases p with
  | none =>
    have hx := SliceS.nilLen (by omega) h
    subst hx
    clear h
    go_enter Try.func129, Try.ntmps129
    go_wp2
    go_ret
    exact ⟨_, rfl, OwnS.empty _, Below.refl _ _⟩
  | some a =>
    unfold maxLen at hcm
    clear h
    go_enter Try.func129, Try.ntmps129
    go_wp2_with (first | (at_builtin; refine wpList_append_S _ rfl (.tmp 5) (.tmp 6) 22 22 rfl w.heap.size 55 55 3 32 Try.underlying22 Try.underlying22 info_op OpS OpS.still OpS.one S (.slice (some ⟨w.heap.size, 0, none⟩) 0 0) [] rfl (OwnS.empty _) (some a) xs.length c xs rfl (SliceS.weak OpS.still H.out (fun k _ hs => ⟨hs, by rw [rowOf_zero]; simp⟩)) (by simp; omega) (by simp [maxLen]; omega) (by simp) ?_; intro v1 w1 ho1 hg1 _; have Ho1 := Lib.hid ho1; have Hb1 := Lib.hid (((Below.refl _ _).alloc (Nat.le_refl _) (.cells #[] 55)).trans (Below.of_row hg1 (by simp) (fun k hk => by rw [rowOf_zero] at hk; cases hk))); clear ho1 hg1))
    go_ret
    exact ⟨_, rfl, by simpa using Ho1.out, Hb1.out⟩

/-- slices.Clone at api.CacheOp. -/
theorem clone_cas (S : Nat → Prop) (p : Option Addr) (m c : Nat) (xs : List CaV) (w : World) (h : SliceS 2 CaS S w [.slice p m c] xs) (hl : xs.length ≤ 100000000) :
    Calls Try.prog 130 #[.slice p m c] w fun e w' => ∃ v, e = .returned v ∧ OwnS w.heap.size 132 2 CaS S w' v xs ∧ Below w.heap.size w w' := by
  have q22 : ∀ (w : World) (a : Option Addr) (n c n' c' : Nat), (binOp .eql 49 (.slice a n c) (.slice none n' c')).run Try.prog w = .ok (.bool a.isNone) w :=
    fun w a n c n' c' => Lib.run_eql_slice_nil w _ _ a n c n' c' Try.underlying49
  obtain ⟨rfl, hlc, hcm⟩ := h.len
  have H := Lib.hid (SliceS.below CaS.still h ((Below.refl _ _).alloc (Nat.le_refl _) (.cells #[] 132)))
  cases p with
  | none =>
    have hx := SliceS.nilLen (by omega) h
    subst hx
    clear h
    go_enter Try.func130, Try.ntmps130
    go_wp2
    go_ret
    exact ⟨_, rfl, OwnS.empty _, Below.refl _ _⟩
  | some a =>
    unfold maxLen at hcm
    clear h
    go_enter Try.func130, Try.ntmps130
    go_wp2_with (first | (at_builtin; refine wpList_append_S _ rfl (.tmp 5) (.tmp 6) 49 49 rfl w.heap.size 132 132 2 16 Try.underlying49 Try.underlying49 info_ca CaS CaS.still CaS.one S (.slice (some ⟨w.heap.size, 0, none⟩) 0 0) [] rfl (OwnS.empty _) (some a) xs.length c xs rfl (SliceS.weak CaS.still H.out (fun k _ hs => ⟨hs, by rw [rowOf_zero]; simp⟩)) (by simp; omega) (by simp [maxLen]; omega) (by simp) ?_; intro v1 w1 ho1 hg1 _; have Ho1 := Lib.hid ho1; have Hb1 := Lib.hid (((Below.refl _ _).alloc (Nat.le_refl _) (.cells #[] 132)).trans (Below.of_row hg1 (by simp) (fun k hk => by rw [rowOf_zero] at hk; cases hk))); clear ho1 hg1))
    go_ret
    exact ⟨_, rfl, by simpa using Ho1.out, Hb1.out⟩

/-- slices.Clone at api.Entry. -/
theorem clone_ens (S : Nat → Prop) (p : Option Addr) (m c : Nat) (xs : List EnV) (w : World) (h : SliceS 8 EnS S w [.slice p m c] xs) (hl : xs.length ≤ 100000) :
    Calls Try.prog 133 #[.slice p m c] w fun e w' => ∃ v, e = .returned v ∧ OwnS w.heap.size 52 8 EnS S w' v xs ∧ Below w.heap.size w w' := by
  have q22 : ∀ (w : World) (a : Option Addr) (n c n' c' : Nat), (binOp .eql 23 (.slice a n c) (.slice none n' c')).run Try.prog w = .ok (.bool a.isNone) w :=
    fun w a n c n' c' => Lib.run_eql_slice_nil w _ _ a n c n' c' Try.underlying23
  obtain ⟨rfl, hlc, hcm⟩ := h.len
  have H := Lib.hid (SliceS.below EnS.still h ((Below.refl _ _).alloc (Nat.le_refl _) (.cells #[] 52)))
  cases p with
  | none =>
    have hx := SliceS.nilLen (by omega) h
    subst hx
    clear h
    go_enter Try.func133, Try.ntmps133
    go_wp2
    go_ret
    exact ⟨_, rfl, OwnS.empty _, Below.refl _ _⟩
  | some a =>
    unfold maxLen at hcm
    clear h
    go_enter Try.func133, Try.ntmps133
    go_wp2_with (first | (at_builtin; refine wpList_append_S _ rfl (.tmp 5) (.tmp 6) 23 23 rfl w.heap.size 52 52 8 144 Try.underlying23 Try.underlying23 info_en EnS EnS.still EnS.one S (.slice (some ⟨w.heap.size, 0, none⟩) 0 0) [] rfl (OwnS.empty _) (some a) xs.length c xs rfl (SliceS.weak EnS.still H.out (fun k _ hs => ⟨hs, by rw [rowOf_zero]; simp⟩)) (by simp; omega) (by simp [maxLen]; omega) (by simp) ?_; intro v1 w1 ho1 hg1 _; have Ho1 := Lib.hid ho1; have Hb1 := Lib.hid (((Below.refl _ _).alloc (Nat.le_refl _) (.cells #[] 52)).trans (Below.of_row hg1 (by simp) (fun k hk => by rw [rowOf_zero] at hk; cases hk))); clear ho1 hg1))
    go_ret
    exact ⟨_, rfl, by simpa using Ho1.out, Hb1.out⟩

def enArg (x : EnV) (a : EnP) : Value := .agg #[.int .i64 x.kind, .bool x.hide, .string x.frm, .string x.dst, .slice a.pg x.good.length a.cg, .slice a.pb x.bad.length a.cb, .slice a.pc x.cache.length a.cc, .slice a.pr x.reply.length a.cr]

end Go.Proofs.Ytjfhpafaopeogaa
