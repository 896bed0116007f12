/-
  Replies as arguments: how they are read; whether they are few (layer 22).
-/
import Derived.Test.YtjfhpafaopeogaaMaC
namespace Go.Proofs.Ytjfhpafaopeogaa
open Go.RowKit
set_option linter.unusedVariables false
set_option linter.unusedSimpArgs false

/-- Some truth value is returned. -/
def IsB (e : Ending) : Prop := ∃ r, e = .returned (.bool r)

structure ColV where
  name : ByteArray
  a : Int
  b : Int
  o : Int
  s : Int
  m : Int
  f : Int
structure CelV where
  nul : Bool
  p : Option Addr
  n : Nat
  c : Nat
structure FldV where
  code : Int
  text : ByteArray
def ColS : Rd ColV := fun _ _ cs x => cs = [.string x.name, .int .i64 x.a, .int .i64 x.b, .int .i64 x.o, .int .i64 x.s, .int .i64 x.m, .int .i64 x.f]
def CelS : Rd CelV := fun _ _ cs x => cs = [.bool x.nul, .slice x.p x.n x.c]
def FldS : Rd FldV := fun _ _ cs x => cs = [.int .u8 x.code, .string x.text]
theorem ColS.still : Still ColS := fun _ _ _ _ _ _ h _ => h
theorem CelS.still : Still CelS := fun _ _ _ _ _ _ h _ => h
theorem FldS.still : Still FldS := fun _ _ _ _ _ _ h _ => h

theorem opensS_col : OpensS Try.prog 136 ColS := by
  intro H enc w base spare held fuel cs x h
  have S : StructOf Try.prog 136 _ := ⟨Try.underlying136, by kernel_rfl, by kernel_rfl⟩
  have hl := S.len h
  match cs, hl with
  | [c0, c1, c2, c3, c4, c5, c6], _ =>
    obtain ⟨y0, e0, _⟩ := S.field h 0 _ rfl c0 rfl (opens_str Try.underlying9)
    obtain ⟨y1, e1, _⟩ := S.field h 1 _ rfl c1 rfl (opens_int Try.underlying3)
    obtain ⟨y2, e2, _⟩ := S.field h 2 _ rfl c2 rfl (opens_int Try.underlying3)
    obtain ⟨y3, e3, _⟩ := S.field h 3 _ rfl c3 rfl (opens_int Try.underlying3)
    obtain ⟨y4, e4, _⟩ := S.field h 4 _ rfl c4 rfl (opens_int Try.underlying3)
    obtain ⟨y5, e5, _⟩ := S.field h 5 _ rfl c5 rfl (opens_int Try.underlying3)
    obtain ⟨y6, e6, _⟩ := S.field h 6 _ rfl c6 rfl (opens_int Try.underlying3)
    simp only [List.cons.injEq, and_true] at e0 e1 e2 e3 e4 e5 e6
    subst e0 e1 e2 e3 e4 e5 e6
    exact ⟨⟨y0, y1, y2, y3, y4, y5, y6⟩, rfl⟩
theorem opensS_cel : OpensS Try.prog 140 CelS := by
  intro H enc w base spare held fuel cs x h
  have S : StructOf Try.prog 140 _ := ⟨Try.underlying140, by kernel_rfl, by kernel_rfl⟩
  have hl := S.len h
  match cs, hl with
  | [c0, c1], _ =>
    obtain ⟨y0, e0⟩ := S.field h 0 _ rfl c0 rfl (opens_bool Try.underlying4)
    obtain ⟨y1, h1⟩ := S.field h 1 _ rfl c1 rfl (opensS_bytes Try.underlying50 Try.underlying5 (by kernel_rfl))
    obtain ⟨p, c, rfl⟩ := BytesS.shape h1
    unfold BoolR at e0
    simp only [List.cons.injEq, and_true] at e0
    subst e0
    exact ⟨⟨y0, p, _, c⟩, rfl⟩
theorem opensS_fld : OpensS Try.prog 144 FldS := by
  intro H enc w base spare held fuel cs x h
  have S : StructOf Try.prog 144 _ := ⟨Try.underlying144, by kernel_rfl, by kernel_rfl⟩
  have hl := S.len h
  match cs, hl with
  | [c0, c1], _ =>
    obtain ⟨y0, e0, _⟩ := S.field h 0 _ rfl c0 rfl (opens_int Try.underlying5)
    obtain ⟨y1, e1, _⟩ := S.field h 1 _ rfl c1 rfl (opens_str Try.underlying9)
    simp only [List.cons.injEq, and_true] at e0 e1
    subst e0 e1
    exact ⟨⟨y0, y1⟩, rfl⟩

/-- A reply's memory. -/
structure BkL (S : Nat → Prop) (w : World) (b : BkV) : Prop where
  k0 : 0 ≤ b.kind
  k1 : b.kind < 256
  cols : ∃ xs, SliceS 7 ColS S w [.slice b.cols b.ncols b.ccols] xs
  row : ∃ xs, SliceS 2 CelS S w [.slice b.row b.nrow b.crow] xs
  flds : ∃ xs, SliceS 2 FldS S w [.slice b.flds b.nflds b.cflds] xs
theorem BkL.keep {S S' : Nat → Prop} {w w' : World} {b : BkV} (h : BkL S w b) (hk : Kept S S' w w') : BkL S' w' b := by
  obtain ⟨h1, h2, ⟨xs, h3⟩, ⟨ys, h4⟩, ⟨zs, h5⟩⟩ := h
  exact ⟨h1, h2, ⟨xs, (SliceS.still ColS.still) _ _ _ _ _ _ h3 hk⟩, ⟨ys, (SliceS.still CelS.still) _ _ _ _ _ _ h4 hk⟩, ⟨zs, (SliceS.still FldS.still) _ _ _ _ _ _ h5 hk⟩⟩
def BkS : Rd BkV := fun S w cs b => cs = (bkCl b).toList ∧ BkL S w b
theorem BkS.still : Still BkS := by
  rintro S S' w w' cs x ⟨h1, h2⟩ hk
  exact ⟨h1, h2.keep hk⟩

theorem opensS_bk : OpensS Try.prog 69 BkS := by
  intro H enc w base spare held fuel cs x h
  have S : StructOf Try.prog 69 _ := ⟨Try.underlying69, by kernel_rfl, by kernel_rfl⟩
  have hl := S.len h
  match cs, hl with
  | [c0, c1, c2, c3, c4, c5, c6, c7, c8, c9, c10], _ =>
    obtain ⟨y0, e0, hw0⟩ := S.field h 0 _ rfl c0 rfl (opens_int Try.underlying5)
    obtain ⟨y1, e1, _⟩ := S.field h 1 _ rfl c1 rfl (opens_int Try.underlying5)
    obtain ⟨y2, e2, _⟩ := S.field h 2 _ rfl c2 rfl (opens_str Try.underlying9)
    obtain ⟨y3, e3, _⟩ := S.field h 3 _ rfl c3 rfl (opens_str Try.underlying9)
    obtain ⟨y4, e4, _⟩ := S.field h 4 _ rfl c4 rfl (opens_str Try.underlying9)
    obtain ⟨y5, e5, _⟩ := S.field h 5 _ rfl c5 rfl (opens_int Try.underlying3)
    obtain ⟨y6, e6, _⟩ := S.field h 6 _ rfl c6 rfl (opens_int Try.underlying3)
    obtain ⟨y7, h7⟩ := S.field h 7 _ rfl c7 rfl (opensS_slice (n := 1) Try.underlying36 (by kernel_rfl) (by omega) (opensS_int Try.underlying3))
    obtain ⟨y8, h8⟩ := S.field h 8 _ rfl c8 rfl (opensS_slice (n := 7) Try.underlying65 (by kernel_rfl) (by omega) opensS_col)
    obtain ⟨y9, h9⟩ := S.field h 9 _ rfl c9 rfl (opensS_slice (n := 2) Try.underlying66 (by kernel_rfl) (by omega) opensS_cel)
    obtain ⟨y10, h10⟩ := S.field h 10 _ rfl c10 rfl (opensS_slice (n := 2) Try.underlying67 (by kernel_rfl) (by omega) opensS_fld)
    obtain ⟨p7, q7, rfl⟩ := SliceS.shape h7
    obtain ⟨p8, q8, rfl⟩ := SliceS.shape h8
    obtain ⟨p9, q9, rfl⟩ := SliceS.shape h9
    obtain ⟨p10, q10, rfl⟩ := SliceS.shape h10
    simp only [List.cons.injEq, and_true] at e0 e1 e2 e3 e4 e5 e6
    subst e0 e1 e2 e3 e4 e5 e6
    have hb := byte_of_wf hw0
    exact ⟨⟨y0, y1, y2, y3, y4, y5, y6, p7, _, q7, p8, _, q8, p9, _, q9, p10, _, q10⟩, rfl, hb.1, hb.2, ⟨y8, h8⟩, ⟨y9, h9⟩, ⟨y10, h10⟩⟩


set_option maxRecDepth 100000 in
theorem longCol_any (x : ColV) (w : World) : Calls Try.prog 81 #[.agg #[.string x.name, .int .i64 x.a, .int .i64 x.b, .int .i64 x.o, .int .i64 x.s, .int .i64 x.m, .int .i64 x.f]] w fun e w' => IsB e ∧ Below w.heap.size w w' := by
  have Hb := Lib.hid ((Below.refl w.heap.size w).alloc (Nat.le_refl _) (.cells #[.string x.name, .int .i64 x.a, .int .i64 x.b, .int .i64 x.o, .int .i64 x.s, .int .i64 x.m, .int .i64 x.f] 136))
  go_enter Try.func81, Try.ntmps81
  go_wp2
  go_ret
  exact ⟨⟨_, rfl⟩, Hb.out⟩

set_option maxRecDepth 100000 in
set_option maxHeartbeats 4000000 in
theorem indexCol_any (S : Nat → Prop) (p : Option Addr) (n c : Nat) (L : List ColV) (w : World) (h : SliceS 7 ColS S w [.slice p n c] L) :
    Calls Try.prog 110 #[.slice p n c, .func (.func 81) #[] #[]] w fun e w' => (∃ r, e = .returned (.int .i64 r)) ∧ Below w.heap.size w w' := by
  have H := Lib.hid (h.weak ColS.still (S' := fun k => k < w.heap.size) (fun k hk _ => hk))
  obtain ⟨rfl, hlc, hcm⟩ := h.len
  unfold maxLen at hcm
  clear h
  go_enter Try.func110, Try.ntmps110
  go_wp2_with fail
  go_loopw [5, 8] (fun _ i wr => ∃ k : Nat, k ≤ L.length ∧ i = .int .i64 k ∧ Below w.heap.size w wr) (fun _ i _ => L.length - (intOf i).toNat)
  case atStart => exact ⟨0, Nat.zero_le _, rfl, Below.refl _ _⟩
  case round =>
    obtain ⟨k, hk, rfl, hb⟩ := hrel
    have hsz := hb.size
    have Hb := Lib.hid hb
    by_cases hlt : k < L.length
    · obtain ⟨b, o, cs, rfl, hS, hbl, hl, hc, hx⟩ := (H.out.below ColS.still hb).elem (by omega) k L[k] (List.getElem?_eq_getElem hlt)
      unfold ColS at hx
      subst hx
      have c0 := hc 0 _ rfl
      have c1 := hc 1 _ rfl
      have c2 := hc 2 _ rfl
      have c3 := hc 3 _ rfl
      have c4 := hc 4 _ rfl
      have c5 := hc 5 _ rfl
      have c6 := hc 6 _ rfl
      rw [Nat.add_zero] at c0
      have Hc := Lib.hid (fun w0 => longCol_any L[k] w0)
      clear hb hS hc hl
      generalize L[k] = x at *
      have hlti : (k : Int) < (L.length : Int) := by omega
      have hwk : IntKind.i64.wrap ((k : Int) + 1) = (k : Int) + 1 := by rw [IntKind.wrap_i64]; omega
      go_wp2_with fail
      refine (Hc.out _).mono ?_
      rintro e w1 ⟨⟨r, rfl⟩, hb1⟩
      have Hb1 := Lib.hid (Hb.out.trans (hb1.mono hsz))
      clear hb1
      cases r with
      | false =>
        go_wp2_with fail
        go_roundw
        case rel => exact ⟨k + 1, by omega, by go_num, Hb1.out⟩
        case measure => simp [intOf]; omega
      | true =>
        go_wp2_with fail
        go_ret
        exact ⟨⟨_, rfl⟩, Hb1.out⟩
    · have hkl : ¬ (k : Int) < (L.length : Int) := by omega
      go_wp2
      go_ret
      exact ⟨⟨_, rfl⟩, Hb.out⟩

set_option maxRecDepth 100000 in
theorem containsCol_any (S : Nat → Prop) (p : Option Addr) (n c : Nat) (L : List ColV) (w : World) (h : SliceS 7 ColS S w [.slice p n c] L) :
    Calls Try.prog 80 #[.slice p n c, .func (.func 81) #[] #[]] w fun e w' => IsB e ∧ Below w.heap.size w w' := by
  have H := Lib.hid (indexCol_any S p n c L w h)
  clear h
  go_enter Try.func80, Try.ntmps80
  go_wp2_with fail
  refine H.out.mono ?_
  rintro e w1 ⟨⟨r, rfl⟩, hb⟩
  have Hb := Lib.hid hb
  clear hb
  go_wp2
  go_ret
  exact ⟨⟨_, rfl⟩, Hb.out⟩

set_option maxRecDepth 100000 in
theorem longCel_any (x : CelV) (w : World) : Calls Try.prog 83 #[.agg #[.bool x.nul, .slice x.p x.n x.c]] w fun e w' => IsB e ∧ Below w.heap.size w w' := by
  have Hb := Lib.hid ((Below.refl w.heap.size w).alloc (Nat.le_refl _) (.cells #[.bool x.nul, .slice x.p x.n x.c] 140))
  go_enter Try.func83, Try.ntmps83
  go_wp2
  go_ret
  exact ⟨⟨_, rfl⟩, Hb.out⟩

set_option maxRecDepth 100000 in
set_option maxHeartbeats 4000000 in
theorem indexCel_any (S : Nat → Prop) (p : Option Addr) (n c : Nat) (L : List CelV) (w : World) (h : SliceS 2 CelS S w [.slice p n c] L) :
    Calls Try.prog 111 #[.slice p n c, .func (.func 83) #[] #[]] w fun e w' => (∃ r, e = .returned (.int .i64 r)) ∧ Below w.heap.size w w' := by
  have H := Lib.hid (h.weak CelS.still (S' := fun k => k < w.heap.size) (fun k hk _ => hk))
  obtain ⟨rfl, hlc, hcm⟩ := h.len
  unfold maxLen at hcm
  clear h
  go_enter Try.func111, Try.ntmps111
  go_wp2_with fail
  go_loopw [5, 8] (fun _ i wr => ∃ k : Nat, k ≤ L.length ∧ i = .int .i64 k ∧ Below w.heap.size w wr) (fun _ i _ => L.length - (intOf i).toNat)
  case atStart => exact ⟨0, Nat.zero_le _, rfl, Below.refl _ _⟩
  case round =>
    obtain ⟨k, hk, rfl, hb⟩ := hrel
    have hsz := hb.size
    have Hb := Lib.hid hb
    by_cases hlt : k < L.length
    · obtain ⟨b, o, cs, rfl, hS, hbl, hl, hc, hx⟩ := (H.out.below CelS.still hb).elem (by omega) k L[k] (List.getElem?_eq_getElem hlt)
      unfold CelS at hx
      subst hx
      have c0 := hc 0 _ rfl
      have c1 := hc 1 _ rfl
      rw [Nat.add_zero] at c0
      have Hc := Lib.hid (fun w0 => longCel_any L[k] w0)
      clear hb hS hc hl
      generalize L[k] = x at *
      have hlti : (k : Int) < (L.length : Int) := by omega
      have hwk : IntKind.i64.wrap ((k : Int) + 1) = (k : Int) + 1 := by rw [IntKind.wrap_i64]; omega
      go_wp2_with fail
      refine (Hc.out _).mono ?_
      rintro e w1 ⟨⟨r, rfl⟩, hb1⟩
      have Hb1 := Lib.hid (Hb.out.trans (hb1.mono hsz))
      clear hb1
      cases r with
      | false =>
        go_wp2_with fail
        go_roundw
        case rel => exact ⟨k + 1, by omega, by go_num, Hb1.out⟩
        case measure => simp [intOf]; omega
      | true =>
        go_wp2_with fail
        go_ret
        exact ⟨⟨_, rfl⟩, Hb1.out⟩
    · have hkl : ¬ (k : Int) < (L.length : Int) := by omega
      go_wp2
      go_ret
      exact ⟨⟨_, rfl⟩, Hb.out⟩

set_option maxRecDepth 100000 in
theorem containsCel_any (S : Nat → Prop) (p : Option Addr) (n c : Nat) (L : List CelV) (w : World) (h : SliceS 2 CelS S w [.slice p n c] L) :
    Calls Try.prog 82 #[.slice p n c, .func (.func 83) #[] #[]] w fun e w' => IsB e ∧ Below w.heap.size w w' := by
  have H := Lib.hid (indexCel_any S p n c L w h)
  clear h
  go_enter Try.func82, Try.ntmps82
  go_wp2_with fail
  refine H.out.mono ?_
  rintro e w1 ⟨⟨r, rfl⟩, hb⟩
  have Hb := Lib.hid hb
  clear hb
  go_wp2
  go_ret
  exact ⟨⟨_, rfl⟩, Hb.out⟩

set_option maxRecDepth 100000 in
theorem longFld_any (x : FldV) (w : World) : Calls Try.prog 85 #[.agg #[.int .u8 x.code, .string x.text]] w fun e w' => IsB e ∧ Below w.heap.size w w' := by
  have Hb := Lib.hid ((Below.refl w.heap.size w).alloc (Nat.le_refl _) (.cells #[.int .u8 x.code, .string x.text] 144))
  go_enter Try.func85, Try.ntmps85
  go_wp2
  go_ret
  exact ⟨⟨_, rfl⟩, Hb.out⟩

set_option maxRecDepth 100000 in
set_option maxHeartbeats 4000000 in
theorem indexFld_any (S : Nat → Prop) (p : Option Addr) (n c : Nat) (L : List FldV) (w : World) (h : SliceS 2 FldS S w [.slice p n c] L) :
    Calls Try.prog 112 #[.slice p n c, .func (.func 85) #[] #[]] w fun e w' => (∃ r, e = .returned (.int .i64 r)) ∧ Below w.heap.size w w' := by
  have H := Lib.hid (h.weak FldS.still (S' := fun k => k < w.heap.size) (fun k hk _ => hk))
  obtain ⟨rfl, hlc, hcm⟩ := h.len
  unfold maxLen at hcm
  clear h
  go_enter Try.func112, Try.ntmps112
  go_wp2_with fail
  go_loopw [5, 8] (fun _ i wr => ∃ k : Nat, k ≤ L.length ∧ i = .int .i64 k ∧ Below w.heap.size w wr) (fun _ i _ => L.length - (intOf i).toNat)
  case atStart => exact ⟨0, Nat.zero_le _, rfl, Below.refl _ _⟩
  case round =>
    obtain ⟨k, hk, rfl, hb⟩ := hrel
    have hsz := hb.size
    have Hb := Lib.hid hb
    by_cases hlt : k < L.length
    · obtain ⟨b, o, cs, rfl, hS, hbl, hl, hc, hx⟩ := (H.out.below FldS.still hb).elem (by omega) k L[k] (List.getElem?_eq_getElem hlt)
      unfold FldS at hx
      subst hx
      have c0 := hc 0 _ rfl
      have c1 := hc 1 _ rfl
      rw [Nat.add_zero] at c0
      have Hc := Lib.hid (fun w0 => longFld_any L[k] w0)
      clear hb hS hc hl
      generalize L[k] = x at *
      have hlti : (k : Int) < (L.length : Int) := by omega
      have hwk : IntKind.i64.wrap ((k : Int) + 1) = (k : Int) + 1 := by rw [IntKind.wrap_i64]; omega
      go_wp2_with fail
      refine (Hc.out _).mono ?_
      rintro e w1 ⟨⟨r, rfl⟩, hb1⟩
      have Hb1 := Lib.hid (Hb.out.trans (hb1.mono hsz))
      clear hb1
      cases r with
      | false =>
        go_wp2_with fail
        go_roundw
        case rel => exact ⟨k + 1, by omega, by go_num, Hb1.out⟩
        case measure => simp [intOf]; omega
      | true =>
        go_wp2_with fail
        go_ret
        exact ⟨⟨_, rfl⟩, Hb1.out⟩
    · have hkl : ¬ (k : Int) < (L.length : Int) := by omega
      go_wp2
      go_ret
      exact ⟨⟨_, rfl⟩, Hb.out⟩

set_option maxRecDepth 100000 in
theorem containsFld_any (S : Nat → Prop) (p : Option Addr) (n c : Nat) (L : List FldV) (w : World) (h : SliceS 2 FldS S w [.slice p n c] L) :
    Calls Try.prog 84 #[.slice p n c, .func (.func 85) #[] #[]] w fun e w' => IsB e ∧ Below w.heap.size w w' := by
  have H := Lib.hid (indexFld_any S p n c L w h)
  clear h
  go_enter Try.func84, Try.ntmps84
  go_wp2_with fail
  refine H.out.mono ?_
  rintro e w1 ⟨⟨r, rfl⟩, hb⟩
  have Hb := Lib.hid hb
  clear hb
  go_wp2
  go_ret
  exact ⟨⟨_, rfl⟩, Hb.out⟩

set_option maxRecDepth 100000 in
set_option maxHeartbeats 8000000 in
theorem plainBack_any (S : Nat → Prop) (b : BkV) (w : World) (h : BkL S w b) :
    Calls Try.prog 44 #[bkArg b] w fun e w' => IsB e ∧ Below w.heap.size w w' := by
  have hbW : Below w.heap.size w (w.alloc (.cells (bkCl b) 69)) := (Below.refl _ _).alloc (Nat.le_refl _) _
  have hk := Blk.new w 69 (bkCl b)
  have hz : w.heap.size < (w.alloc (.cells (bkCl b) 69)).heap.size := by simp
  obtain ⟨k0, k1, ⟨xs, h1⟩, ⟨ys, h2⟩, ⟨zs, h3⟩⟩ := h.keep (Kept.all hbW)
  have H1 := Lib.hid h1
  have H2 := Lib.hid h2
  have H3 := Lib.hid h3
  obtain ⟨n1, hlc1, _⟩ := h1.len
  obtain ⟨n2, hlc2, _⟩ := h2.len
  obtain ⟨n3, hlc3, _⟩ := h3.len
  have Hb := Lib.hid hbW
  have Hk := Lib.hid hk
  clear h h1 h2 h3 k0 k1 hbW hk n1 n2 n3 hlc1 hlc2 hlc3
  obtain ⟨bk, bs, bt, bn, bv, n, m, oa, oln, oc, ca, cln, cc, ra, rl, rc, fa, fl, fc⟩ := b
  unfold bkArg
  unfold bkCl at *
  dsimp only at *
  go_enter Try.func44, Try.ntmps44
  go_upto_region 1 with (fail)
  generalize w.alloc (.cells #[.int .u8 bk, .int .u8 bs, .string bt, .string bn, .string bv, .int .i64 n, .int .i64 m, .slice oa oln oc, .slice ca cln cc, .slice ra rl rc, .slice fa fl fc] 69) = w0 at *
  have hc0 := Hk.out.cell
  by_cases hl : oln ≤ 50 ∧ cln ≤ 50 ∧ rl ≤ 50 ∧ fl ≤ 50
  · obtain ⟨l1, l2, l3, l4⟩ := hl
    have m1 : ¬ (50 : Int) < (oln : Int) := by omega
    have m2 : ¬ (50 : Int) < (cln : Int) := by omega
    have m3 : ¬ (50 : Int) < (rl : Int) := by omega
    have m4 : ¬ (50 : Int) < (fl : Int) := by omega
    have Hz := Lib.hid hz
    clear l1 l2 l3 l4 hz
    go_upto_region 3 with (fail)
    go_cut [3] (fun v wx => (∃ b, v = .bool b) ∧ Below w0.heap.size w0 wx)
    case first =>
      have HC1 := Lib.hid (containsCol_any _ ca cln cc xs w0 H1.out)
      go_wp2_with (first | (go_at_call 80; refine HC1.out.mono ?_; rintro e w1 ⟨⟨b1, rfl⟩, hb1⟩; have Hb1 := Lib.hid hb1; have hc1 := (Hk.out.below hb1 Hk.out.lt).cell; have HC2 := Lib.hid (containsCel_any _ ra rl rc ys w1 (H2.out.below CelS.still hb1)); clear hb1) | (go_at_call 82; refine HC2.out.mono ?_; rintro e w2 ⟨⟨b2, rfl⟩, hb2⟩; have Hb2 := Lib.hid (Hb1.out.trans (hb2.mono Hb1.out.size))))
      all_goals
        go_meet
        exact ⟨⟨_, rfl⟩, by first | exact Hb2.out | exact Hb1.out⟩
    case rest =>
      obtain ⟨⟨b3, rfl⟩, hbx⟩ := hcut
      have Hbx := Lib.hid hbx
      have hcx := (Hk.out.below hbx Hk.out.lt).cell
      have HC3 := Lib.hid (containsFld_any _ fa fl fc zs wc (H3.out.below FldS.still hbx))
      clear hbx hc0
      go_upto_region 4 with (fail)
      go_cut [3] (fun v wx => (∃ b, v = .bool b) ∧ Below w0.heap.size w0 wx)
      case first =>
        go_wp2_with (first | (go_at_call 84; refine HC3.out.mono ?_; rintro e w2 ⟨⟨b2, rfl⟩, hb2⟩; have Hb2 := Lib.hid (Hbx.out.trans (hb2.mono Hbx.out.size))))
        all_goals
          go_meet
          exact ⟨⟨_, rfl⟩, by first | exact Hb2.out | exact Hbx.out⟩
      case rest =>
        obtain ⟨⟨b4, rfl⟩, hby⟩ := hcut
        have Hby := Lib.hid (Hb.out.trans (hby.mono (by have := Hz.out; omega)))
        have hcy := (Hk.out.below hby Hk.out.lt).cell
        clear hby hcx
        go_wp2_with fail
        all_goals
          go_ret
          exact ⟨⟨_, rfl⟩, Hby.out⟩
  · have hor : 50 < oln ∨ (oln ≤ 50 ∧ 50 < cln) ∨ (oln ≤ 50 ∧ cln ≤ 50 ∧ 50 < rl) ∨ (oln ≤ 50 ∧ cln ≤ 50 ∧ rl ≤ 50 ∧ 50 < fl) := by omega
    clear hz
    rcases hor with h1 | ⟨h1, h2⟩ | ⟨h1, h2, h3⟩ | ⟨h1, h2, h3, h4⟩
    · have m1 : (50 : Int) < (oln : Int) := by omega
      clear hl
      go_wp2_with fail
      go_ret
      exact ⟨⟨_, rfl⟩, Hb.out⟩
    · have m1 : ¬ (50 : Int) < (oln : Int) := by omega
      have m2 : (50 : Int) < (cln : Int) := by omega
      clear hl
      go_wp2_with fail
      go_ret
      exact ⟨⟨_, rfl⟩, Hb.out⟩
    · have m1 : ¬ (50 : Int) < (oln : Int) := by omega
      have m2 : ¬ (50 : Int) < (cln : Int) := by omega
      have m3 : (50 : Int) < (rl : Int) := by omega
      clear hl
      go_wp2_with fail
      go_ret
      exact ⟨⟨_, rfl⟩, Hb.out⟩
    · have m1 : ¬ (50 : Int) < (oln : Int) := by omega
      have m2 : ¬ (50 : Int) < (cln : Int) := by omega
      have m3 : ¬ (50 : Int) < (rl : Int) := by omega
      have m4 : (50 : Int) < (fl : Int) := by omega
      clear hl
      go_wp2_with fail
      go_ret
      exact ⟨⟨_, rfl⟩, Hb.out⟩

set_option maxRecDepth 100000 in
set_option maxHeartbeats 8000000 in
theorem matchFew_any (S : Nat → Prop) (p : Option Addr) (n c : Nat) (L : List BkV) (w : World) (h : SliceS 11 BkS S w [.slice p n c] L) :
    Calls Try.prog 35 #[.slice p n c] w fun e w' => IsB e ∧ Below w.heap.size w w' := by
  have H := Lib.hid (h.weak BkS.still (S' := fun k => k < w.heap.size) (fun k hk _ => hk))
  obtain ⟨rfl, hlc, hcm⟩ := h.len
  unfold maxLen at hcm
  clear h
  go_enter Try.func35, Try.ntmps35
  go_wp2_with fail
  go_loopw [7] (fun i wr => ∃ k : Nat, k ≤ L.length ∧ i = .int .i64 k ∧ Below w.heap.size w wr) (fun i _ => L.length - (intOf i).toNat)
  case atStart => exact ⟨0, Nat.zero_le _, rfl, Below.refl _ _⟩
  case round =>
    obtain ⟨k, hk, rfl, hb⟩ := hrel
    have hsz := hb.size
    have Hb := Lib.hid hb
    by_cases hlt : k < L.length
    · obtain ⟨b, o, cs, rfl, hS, hbl, hl, hc, hx, hL⟩ := (H.out.below BkS.still hb).elem (by omega) k L[k] (List.getElem?_eq_getElem hlt)
      subst hx
      have c0 := hc 0 _ rfl
      have c1 := hc 1 _ rfl
      have c2 := hc 2 _ rfl
      have c3 := hc 3 _ rfl
      have c4 := hc 4 _ rfl
      have c5 := hc 5 _ rfl
      have c6 := hc 6 _ rfl
      have c7 := hc 7 _ rfl
      have c8 := hc 8 _ rfl
      have c9 := hc 9 _ rfl
      have c10 := hc 10 _ rfl
      rw [Nat.add_zero] at c0
      have hal : Below wr.heap.size wr (wr.alloc (.cells (bkCl L[k]) 69)) := (Below.refl _ _).alloc (Nat.le_refl _) _
      have HB2 := Lib.hid (Hb.out.trans (hal.mono hsz))
      have HP := Lib.hid (plainBack_any _ L[k] _ (hL.keep (Kept.all hal)))
      have HE := Lib.hid (Blk.new wr 69 (bkCl L[k])).cell
      clear hb hS hc hl hL hal
      generalize L[k] = x at *
      obtain ⟨bk, bs, bt, bn, bv, n, m, oa, oln, oc, ca, cln, cc, ra, rl, rc, fa, fl, fc⟩ := x
      unfold bkArg at HP
      unfold bkCl at *
      dsimp only at *
      have he := HE.out
      have hlti : (k : Int) < (L.length : Int) := by omega
      have hwk : IntKind.i64.wrap ((k : Int) + 1) = (k : Int) + 1 := by rw [IntKind.wrap_i64]; omega
      go_upto_region 4 with (fail)
      generalize wr.alloc (.cells #[.int .u8 bk, .int .u8 bs, .string bt, .string bn, .string bv, .int .i64 n, .int .i64 m, .slice oa oln oc, .slice ca cln cc, .slice ra rl rc, .slice fa fl fc] 69) = w2 at *
      clear c0 c1 c2 c3 c4 c5 c6 c7 c8 c9 c10
      by_cases h40 : (40 : Int) ≤ (k : Int)
      · go_wp2_with fail
        go_ret
        exact ⟨⟨_, rfl⟩, HB2.out⟩
      · go_wp2_with (go_at_call 44; refine HP.out.mono ?_; rintro e w3 ⟨⟨r, rfl⟩, hb3⟩; have HB3 := Lib.hid (HB2.out.trans (hb3.mono HB2.out.size)); clear hb3)
        · go_ret
          exact ⟨⟨_, rfl⟩, HB3.out⟩
        · go_roundw
          case rel => exact ⟨k + 1, by omega, by go_num, HB3.out⟩
          case measure => simp [intOf]; omega
    · have hkl : ¬ (k : Int) < (L.length : Int) := by omega
      go_wp2
      go_ret
      exact ⟨⟨_, rfl⟩, Hb.out⟩

theorem opensS_bks : OpensS Try.prog 73 (SliceS 11 BkS) := opensS_slice Try.underlying73 (by kernel_rfl) (by omega) opensS_bk

end Go.Proofs.Ytjfhpafaopeogaa
