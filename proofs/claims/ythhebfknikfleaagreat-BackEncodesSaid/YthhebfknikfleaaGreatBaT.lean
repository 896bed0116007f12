/-
  Messages of servers (layer 7): short ones (remudaplain.Back); their bytes are few; as arguments.
-/
import Derived.Test.YthhebfknikfleaaGreatBaR
import Derived.Test.YthhebfknikfleaaGreatPackD
import Derived.Test.YthhebfknikfleaaGreatIdxCo0
import Derived.Test.YthhebfknikfleaaGreatIdxFd0
import Derived.Test.YthhebfknikfleaaGreatPackA
namespace Go.Proofs.YthhebfknikfleaaGreat
open Go.RowKit
set_option linter.unusedVariables false
set_option linter.unusedSimpArgs false

/-- A message is short. -/
structure FewB (x : BaV) : Prop where
  t : x.tag.size ≤ 300
  n : x.name.size ≤ 300
  v : x.value.size ≤ 300
  o : x.oids.length ≤ 50
  c : x.cols.length ≤ 50
  cn : ∀ c ∈ x.cols, c.name.size ≤ 300
  r : x.row.length ≤ 50
  rb : ∀ c ∈ x.row, c.bytes.length ≤ 300
  f : x.fields.length ≤ 50
  ft : ∀ c ∈ x.fields, c.text.size ≤ 1000
theorem FewB.small {x : BaV} (h : FewB x) : SmallB x :=
  ⟨by have := h.t; omega, by have := h.n; omega, by have := h.v; omega, by have := h.o; omega, by have := h.c; omega, fun c hc => by have := h.cn c hc; omega, by have := h.r; omega, fun c hc => by have := h.rb c hc; omega, by have := h.f; omega, fun c hc => by have := h.ft c hc; omega⟩
theorem FewB.bytes {x : BaV} (h : FewB x) : (bodyB x).length ≤ 100000 := by
  obtain ⟨h1, h2, h3, h4, h5, h6, h7, h8, h9, h10⟩ := h
  unfold bodyB
  split
  · have := putV_len4 [] 0 4; simp only [List.length_nil] at this; omega
  split
  · have k1 := strB_len [] x.name; have k2 := strB_len (strB [] x.name) x.value; simp only [List.length_nil] at k1; omega
  split
  · have k1 := putV_len4 [] x.n 4; have k2 := putV_len4 (putV [] x.n 4) x.m 4; simp only [List.length_nil] at k1; omega
  split
  · simp
  split
  · have k1 := strB_len [] x.tag; simp only [List.length_nil] at k1; omega
  split
  · have k1 := rowB_lenB [] x.row 300 h8; simp only [List.length_nil] at k1; omega
  split
  · have k1 := colP_len [] x.cols 300 h6 x.cols.length (Nat.le_refl _)
    rw [colP_all] at k1
    simp only [List.length_nil] at k1
    omega
  split
  · have k1 := listB_lenB [] x.oids 4; simp only [List.length_nil] at k1; omega
  split
  · have k1 := fldP_len [] x.fields 1000 h10 x.fields.length (Nat.le_refl _)
    rw [fldP_all] at k1
    rw [List.length_append]
    simp only [List.length_nil, List.length_singleton] at *
    omega
  · simp
theorem FewB.short {x : BaV} (h : FewB x) : ShortB x := ⟨h.small, h.bytes⟩

def longCo (c : CoV) : Bool := decide (300 < c.name.size)
def longCe (c : CeV) : Bool := decide (300 < c.bytes.length)
def longFd (c : FdV) : Bool := decide (1000 < c.text.size)
theorem longCo_any (x : CoV) (w : World) : Calls Tryz.prog 36 #[.agg #[.string x.name, .int .i64 x.table, .int .i64 x.attr, .int .i64 x.oid, .int .i64 x.size, .int .i64 x.mod, .int .i64 x.format]] w fun e w' => e = .returned (.bool (longCo x)) ∧ Below w.heap.size w w' := by
  have Hb := Lib.hid ((Below.refl w.heap.size w).alloc (Nat.le_refl _) (.cells #[.string x.name, .int .i64 x.table, .int .i64 x.attr, .int .i64 x.oid, .int .i64 x.size, .int .i64 x.mod, .int .i64 x.format] 79))
  have Hv : Hid (longCo x = decide ((300 : Int) < (x.name.size : Int))) := Lib.hid (by unfold longCo; exact decide_eq_decide.2 (by omega))
  generalize longCo x = v at *
  obtain ⟨xn, x1, x2, x3, x4, x5, x6⟩ := x
  dsimp only at *
  go_enter Tryz.func36, Tryz.ntmps36
  go_wp2
  go_ret
  exact ⟨ret_bool (by rw [Hv.out]), Hb.out⟩
theorem longCe_any (x : CeV) (q : Option Addr) (d : Nat) (w : World) : Calls Tryz.prog 38 #[.agg #[.bool x.null, .slice q x.bytes.length d]] w fun e w' => e = .returned (.bool (longCe x)) ∧ Below w.heap.size w w' := by
  have Hb := Lib.hid ((Below.refl w.heap.size w).alloc (Nat.le_refl _) (.cells #[.bool x.null, .slice q x.bytes.length d] 83))
  have Hv : Hid (longCe x = decide ((300 : Int) < (x.bytes.length : Int))) := Lib.hid (by unfold longCe; exact decide_eq_decide.2 (by omega))
  generalize longCe x = v at *
  obtain ⟨xn, xb⟩ := x
  dsimp only at *
  generalize xb.length = m at *
  go_enter Tryz.func38, Tryz.ntmps38
  go_wp2
  go_ret
  exact ⟨ret_bool (by rw [Hv.out]), Hb.out⟩
theorem longFd_any (x : FdV) (w : World) : Calls Tryz.prog 40 #[.agg #[.int .u8 x.code, .string x.text]] w fun e w' => e = .returned (.bool (longFd x)) ∧ Below w.heap.size w w' := by
  have Hb := Lib.hid ((Below.refl w.heap.size w).alloc (Nat.le_refl _) (.cells #[.int .u8 x.code, .string x.text] 87))
  have Hv : Hid (longFd x = decide ((1000 : Int) < (x.text.size : Int))) := Lib.hid (by unfold longFd; exact decide_eq_decide.2 (by omega))
  generalize longFd x = v at *
  obtain ⟨xc, xt⟩ := x
  dsimp only at *
  go_enter Tryz.func40, Tryz.ntmps40
  go_wp2
  go_ret
  exact ⟨ret_bool (by rw [Hv.out]), Hb.out⟩

/-- What it answers of a message. -/
def FewBR (x : BaV) (w : World) (e : Ending) (w' : World) : Prop := ∃ b, e = .returned (.bool b) ∧ (b = true → FewB x) ∧ Below w.heap.size w w'
theorem FewBR.no {x : BaV} {w w' : World} (h : Below w.heap.size w w') : FewBR x w (.returned (.bool false)) w' := ⟨false, rfl, (fun e => by cases e), h⟩

set_option maxRecDepth 100000 in
set_option maxHeartbeats 4000000 in
theorem fewB_any (S : Nat → Prop) (x : BaV) (a : BaP) (w : World) (h : BaL S w x a) : Calls Tryz.prog 15 #[baArg x a] w (FewBR x w) := by
  have H0 := Lib.hid (Ba1.start h)
  have HC : Hid (∀ w1 : World, Ba1 w w1 w.heap.size x a → ∀ i, w1.cell? ⟨w.heap.size, i, none⟩ = (baCells x a)[i]?) := Lib.hid (fun w1 H => H.b.cell)
  have HP := Lib.hid (fun (w0 : World) (H : Ba1 w w0 w.heap.size x a) => containsCo0 36 longCo (fun _ => True) a.pc x.cols.length a.cc x.cols w0 H.l.lc (enter_of Tryz.func36 (by kernel_rfl) rfl) (fun x w0 _ _ => longCo_any x w0))
  have HQ := Lib.hid (fun (w0 : World) (H : Ba1 w w0 w.heap.size x a) => containsCe 38 longCe (fun _ => True) a.pr x.row.length a.cr x.row w0 H.l.lr (enter_of Tryz.func38 (by kernel_rfl) rfl) (fun x q d w0 _ => longCe_any x q d w0))
  have HR := Lib.hid (fun (w0 : World) (H : Ba1 w w0 w.heap.size x a) => containsFd0 40 longFd (fun _ => True) a.pf x.fields.length a.cf x.fields w0 H.l.lf (enter_of Tryz.func40 (by kernel_rfl) rfl) (fun x w0 _ _ _ _ => longFd_any x w0))
  have HN : Hid (∀ w' : World, Below w.heap.size w w' → FewBR x w (.returned (.bool false)) w') := Lib.hid (fun w' h => FewBR.no h)
  have HY : Hid (∀ w' : World, Below w.heap.size w w' → x.tag.size ≤ 300 → x.name.size ≤ 300 → x.value.size ≤ 300 → x.oids.length ≤ 50 → x.cols.length ≤ 50 → x.row.length ≤ 50 → x.fields.length ≤ 50 → x.cols.any longCo = false → x.row.any longCe = false → x.fields.any longFd = false → FewBR x w (.returned (.bool true)) w') := Lib.hid (fun w' h h1 h2 h3 h4 h5 h6 h7 h8 h9 h10 => ⟨true, rfl, fun _ => ⟨h1, h2, h3, h4, h5, fun c hc => by
      have := List.any_eq_false.1 h8 c hc
      unfold longCo at this
      simp at this
      exact this, h6, fun c hc => by
      have := List.any_eq_false.1 h9 c hc
      unfold longCe at this
      simp at this
      exact this, h7, fun c hc => by
      have := List.any_eq_false.1 h10 c hc
      unfold longFd at this
      simp at this
      exact this⟩, h⟩)
  generalize x.cols.any longCo = lv at *
  generalize x.row.any longCe = lw at *
  generalize x.fields.any longFd = lx at *
  obtain ⟨xk, xs, xt, xn, xv, xa, xb, xo, xc, xr, xf⟩ := x
  obtain ⟨apo, aco, apc, acc, apr, acr, apf, acf⟩ := a
  clear h
  unfold baArg at *
  unfold baCells at HC H0 ⊢
  dsimp only at *
  go_enter Tryz.func15, Tryz.ntmps15
  go_upto_region 1 with (fail)
  generalize w.alloc (.cells #[.int .u8 xk, .int .u8 xs, .string xt, .string xn, .string xv, .int .i64 xa, .int .i64 xb, .slice apo xo.length aco, .slice apc xc.length acc, .slice apr xr.length acr, .slice apf xf.length acf] 39) = w1 at *
  have hc1 := HC.out w1 H0.out
  by_cases ho : (50 : Int) < (xo.length : Int)
  · go_wp2_with fail
    go_ret
    exact HN.out _ H0.out.bel
  by_cases hf : (50 : Int) < (xc.length : Int)
  · go_wp2_with fail
    go_ret
    exact HN.out _ H0.out.bel
  by_cases hr : (50 : Int) < (xr.length : Int)
  · go_wp2_with fail
    go_ret
    exact HN.out _ H0.out.bel
  by_cases hc : (50 : Int) < (xf.length : Int)
  · go_wp2_with fail
    go_ret
    exact HN.out _ H0.out.bel
  have HP1 := Lib.hid (HP.out w1 H0.out)
  go_wp2_with fail
  refine HP1.out.mono ?_
  rintro e w2 ⟨rfl, hb⟩
  have H2 := Lib.hid (H0.out.step hb)
  have hc2 := HC.out w2 H2.out
  clear hb hc1 HP1 HP
  cases lv with
  | true =>
    go_wp2_with fail
    go_ret
    exact HN.out _ H2.out.bel
  | false =>
  have HQ2 := Lib.hid (HQ.out w2 H2.out)
  go_wp2_with fail
  refine HQ2.out.mono ?_
  rintro e w3 ⟨rfl, hb⟩
  have H3 := Lib.hid (H2.out.step hb)
  have hc3 := HC.out w3 H3.out
  clear hb hc2 HQ2 HQ
  cases lw with
  | true =>
    go_wp2_with fail
    go_ret
    exact HN.out _ H3.out.bel
  | false =>
  have HR3 := Lib.hid (HR.out w3 H3.out)
  go_wp2_with fail
  refine HR3.out.mono ?_
  rintro e w4 ⟨rfl, hb⟩
  have H4 := Lib.hid (H3.out.step hb)
  have hc4 := HC.out w4 H4.out
  clear hb hc3 HR3 HR
  cases lx with
  | true =>
    go_wp2_with fail
    go_ret
    exact HN.out _ H4.out.bel
  | false =>
    by_cases ht : (xt.size : Int) ≤ 300
    · by_cases hn : (xn.size : Int) ≤ 300
      · by_cases hv : (xv.size : Int) ≤ 300
        · have Hx := Lib.hid (HY.out _ H4.out.bel (by omega) (by omega) (by omega) (by omega) (by omega) (by omega) (by omega) (by first | rfl | trivial) (by first | rfl | trivial) (by first | rfl | trivial))
          go_wp2_with fail
          go_ret
          exact Hx.out
        · go_wp2_with fail
          go_ret
          have e : decide ((xv.size : Int) ≤ 300) = false := decide_eq_false (by omega)
          rw [e]
          exact HN.out _ H4.out.bel
      · go_wp2_with fail
        go_ret
        exact HN.out _ H4.out.bel
    · go_wp2_with fail
      go_ret
      exact HN.out _ H4.out.bel

theorem opensS_intU : OpensS Tryz.prog 3 IntU := by
  intro H enc w base spare held fuel cs x h
  obtain ⟨n, e, _⟩ := opens_int Tryz.underlying3 H enc w base spare held fuel cs x h
  exact ⟨n, e⟩
theorem opensS_ce : OpensS Tryz.prog 83 CeS := by
  intro H enc w base spare held fuel cs x h
  have S : StructOf Tryz.prog 83 _ := ⟨Tryz.underlying83, by kernel_rfl, by kernel_rfl⟩
  have hl := S.len h
  match cs, hl with
  | [c0, c1], _ =>
    obtain ⟨y0, e0⟩ := S.field h 0 _ rfl c0 rfl (opens_bool Tryz.underlying4)
    obtain ⟨y1, h1⟩ := S.field h 1 _ rfl c1 rfl (opensS_bytes Tryz.underlying25 Tryz.underlying5 (by kernel_rfl))
    obtain ⟨p, c, rfl⟩ := BytesS.shape h1
    unfold BoolR at e0
    simp only [List.cons.injEq, and_true] at e0
    subst e0
    exact ⟨⟨y0, y1⟩, p, c, rfl, h1⟩
theorem opensS_fdU : OpensS Tryz.prog 87 FdS := by
  intro H enc w base spare held fuel cs x h
  have S : StructOf Tryz.prog 87 _ := ⟨Tryz.underlying87, by kernel_rfl, by kernel_rfl⟩
  have hl := S.len h
  match cs, hl with
  | [c0, c1], _ =>
    obtain ⟨y0, e0, hw0⟩ := S.field h 0 _ rfl c0 rfl (opens_int Tryz.underlying5)
    obtain ⟨y1, e1, hw1⟩ := S.field h 1 _ rfl c1 rfl (opens_str Tryz.underlying9)
    simp only [List.cons.injEq, and_true] at e0 e1
    subst e0 e1
    have hb := byte_of_wf hw0
    exact ⟨⟨y0, y1⟩, rfl, hw1, hb.1, hb.2⟩
theorem opensS_co : OpensS Tryz.prog 79 CoS := by
  intro H enc w base spare held fuel cs x h
  have S : StructOf Tryz.prog 79 _ := ⟨Tryz.underlying79, by kernel_rfl, by kernel_rfl⟩
  have hl := S.len h
  match cs, hl with
  | [c0, c1, c2, c3, c4, c5, c6], _ =>
    obtain ⟨y0, e0, hw0⟩ := S.field h 0 _ rfl c0 rfl (opens_str Tryz.underlying9)
    obtain ⟨y1, e1, _⟩ := S.field h 1 _ rfl c1 rfl (opens_int Tryz.underlying3)
    obtain ⟨y2, e2, _⟩ := S.field h 2 _ rfl c2 rfl (opens_int Tryz.underlying3)
    obtain ⟨y3, e3, _⟩ := S.field h 3 _ rfl c3 rfl (opens_int Tryz.underlying3)
    obtain ⟨y4, e4, _⟩ := S.field h 4 _ rfl c4 rfl (opens_int Tryz.underlying3)
    obtain ⟨y5, e5, _⟩ := S.field h 5 _ rfl c5 rfl (opens_int Tryz.underlying3)
    obtain ⟨y6, e6, _⟩ := S.field h 6 _ rfl c6 rfl (opens_int Tryz.underlying3)
    simp only [List.cons.injEq, and_true] at e0 e1 e2 e3 e4 e5 e6
    subst e0 e1 e2 e3 e4 e5 e6
    exact ⟨⟨y0, y1, y2, y3, y4, y5, y6⟩, rfl, hw0⟩
theorem opensS_ba : OpensS Tryz.prog 39 BaS := by
  intro H enc w base spare held fuel cs x h
  have S : StructOf Tryz.prog 39 _ := ⟨Tryz.underlying39, by kernel_rfl, by kernel_rfl⟩
  have hl := S.len h
  match cs, hl with
  | [c0, c1, c2, c3, c4, c5, c6, c7, c8, c9, c10], _ =>
    obtain ⟨y0, e0, hw0⟩ := S.field h 0 _ rfl c0 rfl (opens_int Tryz.underlying5)
    obtain ⟨y1, e1, hw1⟩ := S.field h 1 _ rfl c1 rfl (opens_int Tryz.underlying5)
    obtain ⟨y2, e2, _⟩ := S.field h 2 _ rfl c2 rfl (opens_str Tryz.underlying9)
    obtain ⟨y3, e3, _⟩ := S.field h 3 _ rfl c3 rfl (opens_str Tryz.underlying9)
    obtain ⟨y4, e4, _⟩ := S.field h 4 _ rfl c4 rfl (opens_str Tryz.underlying9)
    obtain ⟨y5, e5, _⟩ := S.field h 5 _ rfl c5 rfl (opens_int Tryz.underlying3)
    obtain ⟨y6, e6, _⟩ := S.field h 6 _ rfl c6 rfl (opens_int Tryz.underlying3)
    obtain ⟨y7, h7⟩ := S.field h 7 _ rfl c7 rfl (opensS_slice (n := 1) Tryz.underlying32 (by kernel_rfl) (by omega) opensS_intU)
    obtain ⟨y8, h8⟩ := S.field h 8 _ rfl c8 rfl (opensS_slice (n := 7) Tryz.underlying35 (by kernel_rfl) (by omega) opensS_co)
    obtain ⟨y9, h9⟩ := S.field h 9 _ rfl c9 rfl (opensS_slice (n := 2) Tryz.underlying36 (by kernel_rfl) (by omega) opensS_ce)
    obtain ⟨y10, h10⟩ := S.field h 10 _ rfl c10 rfl (opensS_slice (n := 2) Tryz.underlying37 (by kernel_rfl) (by omega) opensS_fdU)
    obtain ⟨p7, k7, rfl⟩ := SliceS.shape h7
    obtain ⟨p8, k8, rfl⟩ := SliceS.shape h8
    obtain ⟨p9, k9, rfl⟩ := SliceS.shape h9
    obtain ⟨p10, k10, rfl⟩ := SliceS.shape h10
    have hb0 := byte_of_wf hw0
    have hb1 := byte_of_wf hw1
    simp only [List.cons.injEq, and_true] at e0 e1 e2 e3 e4 e5 e6
    subst e0 e1 e2 e3 e4 e5 e6
    exact ⟨⟨y0, y1, y2, y3, y4, y5, y6, y7, y8, y9, y10⟩, ⟨p7, k7, p8, k8, p9, k9, p10, k10⟩, rfl, ⟨h7, h8, h9, h10⟩, ⟨hb0.1, hb0.2, hb1.1, hb1.2⟩⟩

end Go.Proofs.YthhebfknikfleaaGreat
