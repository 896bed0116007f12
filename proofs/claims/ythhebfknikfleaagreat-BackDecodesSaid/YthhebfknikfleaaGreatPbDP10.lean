/-
  Ground: BaG, RgH, BaJ.
-/
import Derived.Test.YthhebfknikfleaaGreatPbDP2
import Derived.Test.YthhebfknikfleaaGreatPbDP1
import Derived.Test.YthhebfknikfleaaGreatPbDP9
import Derived.Test.YthhebfknikfleaaGreatPbDP0
import Derived.Deep.RegionHeld3
import Derived.Test.YthhebfknikfleaaGreatPbDP8
/-
  Messages of servers (layer 7): which may be: the program's.
-/
namespace Go.Proofs.YthhebfknikfleaaGreat
open Go.RowKit
set_option linter.unusedVariables false
set_option linter.unusedSimpArgs false

theorem servK_1 : ∀ k : Fin 256, decide (0 ≤ Lib.indexByte [82, 83, 75, 90, 49, 50, 51, 110, 115, 73, 67, 68, 84, 116, 69, 78] (UInt8.ofNat k.val)) = servK (k.val : Int) := by decide +kernel

set_option maxRecDepth 100000 in
theorem bknown_any (k : Int) (h0 : 0 ≤ k) (h1 : k < 256) (w : World) : Calls Tryz.prog 52 #[.int .u8 k] w fun e w' => e = .returned (.bool (servK k)) ∧ Below w.heap.size w w' := by
  obtain ⟨n, rfl⟩ := Int.eq_ofNat_of_zero_le h0
  have hn : n < 256 := by omega
  have Hi1 := Lib.hid (servK_1 ⟨n, hn⟩)
  dsimp only at Hi1
  have HA := Lib.hid ((Below.refl w.heap.size w).alloc (Nat.le_refl _) (.cells #[.int .u8 82, .int .u8 83, .int .u8 75, .int .u8 90, .int .u8 49, .int .u8 50, .int .u8 51, .int .u8 110, .int .u8 115, .int .u8 73, .int .u8 67, .int .u8 68, .int .u8 84, .int .u8 116, .int .u8 69, .int .u8 78] 5 (16, 17)))
  have Hb1 := Lib.hid (BytesIn.newK w [82, 83, 75, 90, 49, 50, 51, 110, 115, 73, 67, 68, 84, 116, 69, 78] #[.int .u8 82, .int .u8 83, .int .u8 75, .int .u8 90, .int .u8 49, .int .u8 50, .int .u8 51, .int .u8 110, .int .u8 115, .int .u8 73, .int .u8 67, .int .u8 68, .int .u8 84, .int .u8 116, .int .u8 69, .int .u8 78] 5 (16, 17) rfl)
  have Hc1 := Lib.hid (bytesIndexByte (some ⟨w.heap.size, 0, none⟩) [82, 83, 75, 90, 49, 50, 51, 110, 115, 73, 67, 68, 84, 116, 69, 78] 16 (n : Int) _ Hb1.out)
  have hu : ((n : Int).toNat.toUInt8) = UInt8.ofNat n := rfl
  rw [hu] at Hc1
  have hl1 : ([82, 83, 75, 90, 49, 50, 51, 110, 115, 73, 67, 68, 84, 116, 69, 78] : List UInt8).length = 16 := rfl
  rw [hl1] at Hc1
  generalize Lib.indexByte [82, 83, 75, 90, 49, 50, 51, 110, 115, 73, 67, 68, 84, 116, 69, 78] (UInt8.ofNat n) = i1 at *
  obtain ⟨kv, hkv⟩ : ∃ kv, servK (n : Int) = kv := ⟨_, rfl⟩
  rw [hkv] at Hi1 ⊢
  clear hkv hu hl1
  have kc := fun (w : World) (C : Array Value) (n c : Nat) => Lib.run_convert_bytes_const (P := Tryz.prog) w 25 5 C n c Tryz.underlying25 Tryz.underlying5
  go_enter Tryz.func52, Tryz.ntmps52
  go_wp2_with fail
  generalize w.alloc (.cells #[.int .u8 82, .int .u8 83, .int .u8 75, .int .u8 90, .int .u8 49, .int .u8 50, .int .u8 51, .int .u8 110, .int .u8 115, .int .u8 73, .int .u8 67, .int .u8 68, .int .u8 84, .int .u8 116, .int .u8 69, .int .u8 78] 5 (16, 17)) = w1 at *
  refine Hc1.out.mono ?_
  rintro e w2 ⟨rfl, rfl⟩
  go_wp2_with fail
  go_ret
  exact ⟨ret_bool (by have := Hi1.out; simpa using this), HA.out⟩

theorem bound_any (x : BoV) (w : World) : Calls Tryz.prog 136 #[.agg #[.int .i64 x.n, .int .i64 x.lo, .int .i64 x.hi]] w fun e w' => e = .returned (.bool (outside x.lo x.hi x.n)) ∧ Below w.heap.size w w' := by
  obtain ⟨n, lo, hi⟩ := x
  dsimp only
  have HB := Lib.hid ((Below.refl w.heap.size w).alloc (Nat.le_refl _) (.cells #[.int .i64 n, .int .i64 lo, .int .i64 hi] 149))
  have Ho : Hid (outside lo hi n = (decide (n < lo) || decide (hi < n))) := Lib.hid rfl
  generalize outside lo hi n = r at *
  go_enter Tryz.func136, Tryz.ntmps136
  go_wp2
  all_goals
    go_ret
    refine ⟨ret_bool ?_, HB.out⟩
    rw [Ho.out]
    first | done | simp_all

def outB (x : BoV) : Bool := outside x.lo x.hi x.n
theorem ball_any (S : Nat → Prop) (p : Option Addr) (n c : Nat) (L : List BoV) (w : World) (h : SliceS 3 BoS S w [.slice p n c] L) :
    Calls Tryz.prog 104 #[.slice p n c] w fun e w' => e = .returned (.bool (!L.any outB)) ∧ Below w.heap.size w w' := by
  have Hc := Lib.hid (containsBo 136 outB S p n c L w h (enter_of Tryz.func136 (by kernel_rfl) rfl) (fun x w0 _ => bound_any x w0))
  generalize L.any outB = d at *
  clear h
  go_enter Tryz.func104, Tryz.ntmps104
  go_wp2_with fail
  refine Hc.out.mono ?_
  rintro e w1 ⟨rfl, hb⟩
  have Hb := Lib.hid hb
  clear hb
  go_wp2
  go_ret
  exact ⟨rfl, Hb.out⟩

theorem slice6 (w : World) (e : TypeId) (a b c d f g : BoV) : SliceS 3 BoS (fun _ => True) (w.alloc (.cells #[.int .i64 a.n, .int .i64 a.lo, .int .i64 a.hi, .int .i64 b.n, .int .i64 b.lo, .int .i64 b.hi, .int .i64 c.n, .int .i64 c.lo, .int .i64 c.hi, .int .i64 d.n, .int .i64 d.lo, .int .i64 d.hi, .int .i64 f.n, .int .i64 f.lo, .int .i64 f.hi, .int .i64 g.n, .int .i64 g.lo, .int .i64 g.hi] e)) [.slice (some ⟨w.heap.size, 0, none⟩) 6 6] [a, b, c, d, f, g] := by
  refine ⟨_, _, [[.int .i64 a.n, .int .i64 a.lo, .int .i64 a.hi], [.int .i64 b.n, .int .i64 b.lo, .int .i64 b.hi], [.int .i64 c.n, .int .i64 c.lo, .int .i64 c.hi], [.int .i64 d.n, .int .i64 d.lo, .int .i64 d.hi], [.int .i64 f.n, .int .i64 f.lo, .int .i64 f.hi], [.int .i64 g.n, .int .i64 g.lo, .int .i64 g.hi]], rfl, Nat.le_refl _, by simp [maxLen], fun j u hu => ⟨_, _, rfl, trivial, ?_⟩, ?_⟩
  · rw [Nat.zero_add, World.cell?_alloc_new]
    simpa using hu
  · exact ⟨⟨rfl, rfl⟩, ⟨rfl, rfl⟩, ⟨rfl, rfl⟩, ⟨rfl, rfl⟩, ⟨rfl, rfl⟩, ⟨rfl, rfl⟩, trivial⟩

set_option maxRecDepth 100000 in
set_option maxHeartbeats 4000000 in
theorem column_any (x : CoV) (w : World) : Calls Tryz.prog 55 #[.agg #[.string x.name, .int .i64 x.table, .int .i64 x.attr, .int .i64 x.oid, .int .i64 x.size, .int .i64 x.mod, .int .i64 x.format]] w fun e w' => e = .returned (.bool (colB x)) ∧ Below w.heap.size w w' := by
  have Hv : Hid (colB x = (cleanB x.name && (!([⟨x.table, 0, 4294967295⟩, ⟨x.attr, 0, 65535⟩, ⟨x.oid, 0, 4294967295⟩, ⟨x.size, -32768, 32767⟩, ⟨x.mod, -2147483648, 2147483647⟩, ⟨x.format, 0, 65535⟩] : List BoV).any outB))) := Lib.hid (by
    unfold colB colNums inR
    simp [outB])
  have HC := Lib.hid (fun w0 : World => clean_any x.name w0)
  have Hs := Lib.hid (fun w0 : World => slice6 w0 149 ⟨x.table, 0, 4294967295⟩ ⟨x.attr, 0, 65535⟩ ⟨x.oid, 0, 4294967295⟩ ⟨x.size, -32768, 32767⟩ ⟨x.mod, -2147483648, 2147483647⟩ ⟨x.format, 0, 65535⟩)
  obtain ⟨L, hL⟩ : ∃ L : List BoV, L = [⟨x.table, 0, 4294967295⟩, ⟨x.attr, 0, 65535⟩, ⟨x.oid, 0, 4294967295⟩, ⟨x.size, -32768, 32767⟩, ⟨x.mod, -2147483648, 2147483647⟩, ⟨x.format, 0, 65535⟩] := ⟨_, rfl⟩
  rw [← hL] at Hv Hs
  clear hL
  obtain ⟨xn, xt, xa, xo, xs, xm, xf⟩ := x
  dsimp only at *
  have HA := Lib.hid (fun w0 : World => ball_any _ _ _ _ L _ (Hs.out w0))
  generalize L.any outB = av at *
  generalize cleanB xn = cv at *
  generalize colB _ = rv at *
  have HB0 := Lib.hid ((Below.refl w.heap.size w).alloc (Nat.le_refl _) (.cells #[.string xn, .int .i64 xt, .int .i64 xa, .int .i64 xo, .int .i64 xs, .int .i64 xm, .int .i64 xf] 79))
  have HK0 := Lib.hid (Blk.new w 79 #[.string xn, .int .i64 xt, .int .i64 xa, .int .i64 xo, .int .i64 xs, .int .i64 xm, .int .i64 xf])
  go_enter Tryz.func55, Tryz.ntmps55
  go_upto_region 1 with fail
  have hcx := HK0.out.cell
  generalize w.alloc (.cells #[.string xn, .int .i64 xt, .int .i64 xa, .int .i64 xo, .int .i64 xs, .int .i64 xm, .int .i64 xf] 79) = w1 at *
  go_wp2_with fail
  refine (HC.out _).mono ?_
  rintro e w2 ⟨rfl, rfl⟩
  cases cv with
  | false =>
    go_wp2_with fail
    go_ret
    exact ⟨ret_bool (by rw [Hv.out]; rfl), HB0.out⟩
  | true =>
    go_wp2_with fail
    (with_reducible refine (HA.out _).mono ?_)
    rintro e w3 ⟨rfl, hb⟩
    have HB3 := Lib.hid ((HB0.out.alloc HB0.out.size _).trans (hb.mono (Nat.le_trans HB0.out.size (by simp))))
    clear hb
    go_wp2_with fail
    go_ret
    exact ⟨ret_bool (by rw [Hv.out]; rfl), HB3.out⟩

theorem field_any (x : FdV) (w : World) : Calls Tryz.prog 57 #[.agg #[.int .u8 x.code, .string x.text]] w fun e w' => e = .returned (.bool (fieldB x)) ∧ Below w.heap.size w w' := by
  have HB := Lib.hid ((Below.refl w.heap.size w).alloc (Nat.le_refl _) (.cells #[.int .u8 x.code, .string x.text] 87))
  have Hv : Hid (fieldB x = ((!(x.code == 0)) && cleanB x.text)) := Lib.hid rfl
  have HC := Lib.hid (fun w0 : World => clean_any x.text w0)
  generalize fieldB x = r at *
  generalize cleanB x.text = cv at *
  obtain ⟨xc, xt⟩ := x
  dsimp only at *
  by_cases h0 : xc = 0
  · subst h0
    go_enter Tryz.func57, Tryz.ntmps57
    go_wp2_with fail
    go_ret
    exact ⟨ret_bool (by rw [Hv.out]; rfl), HB.out⟩
  · have h0b : (xc == 0) = false := by simpa using h0
    rw [h0b] at Hv
    go_enter Tryz.func57, Tryz.ntmps57
    go_wp2_with fail
    refine (HC.out _).mono ?_
    rintro e w2 ⟨rfl, rfl⟩
    go_wp2_with fail
    go_ret
    exact ⟨ret_bool (by rw [Hv.out]; simp [h0]), HB.out⟩

theorem bcell_any (x : CeV) (q : Option Addr) (d : Nat) (w : World) : Calls Tryz.prog 59 #[.agg #[.bool x.null, .slice q x.bytes.length d]] w fun e w' => e = .returned (.bool (!wrongC x)) ∧ Below w.heap.size w w' := by
  have Hb := Lib.hid ((Below.refl w.heap.size w).alloc (Nat.le_refl _) (.cells #[.bool x.null, .slice q x.bytes.length d] 83))
  have Hv : Hid (wrongC x = ((x.null && decide ((0 : Int) < (x.bytes.length : Int))) || decide ((1048576 : Int) < (x.bytes.length : Int)))) := Lib.hid (by
    unfold wrongC
    have h1 : decide (0 < x.bytes.length) = decide ((0 : Int) < (x.bytes.length : Int)) := decide_eq_decide.2 (by omega)
    have h2 : decide (1048576 < x.bytes.length) = decide ((1048576 : Int) < (x.bytes.length : Int)) := decide_eq_decide.2 (by omega)
    rw [h1, h2])
  generalize wrongC x = v at *
  obtain ⟨xn, xb⟩ := x
  dsimp only at *
  generalize xb.length = m at *
  have hf : ∀ k : Int, (!decide ((1048576 : Int) < k)) = decide (k ≤ 1048576) := fun k => by by_cases h : k ≤ 1048576 <;> simp [h] <;> omega
  have Hf := Lib.hid hf
  clear hf
  cases xn with
  | false =>
    go_enter Tryz.func59, Tryz.ntmps59
    go_wp2
    go_ret
    exact ⟨ret_bool (by rw [Hv.out, Bool.false_and, Bool.false_or, Hf.out]), Hb.out⟩
  | true =>
    cases m with
    | zero =>
      go_enter Tryz.func59, Tryz.ntmps59
      go_wp2
      go_ret
      exact ⟨ret_bool (by rw [Hv.out]; rfl), Hb.out⟩
    | succ m =>
      have h0 : (0 : Int) < ((m + 1 : Nat) : Int) := by omega
      rw [decide_eq_true h0] at Hv
      obtain ⟨k, hk⟩ : ∃ k : Int, ((m + 1 : Nat) : Int) = k := ⟨_, rfl⟩
      rw [hk] at h0
      have Hk := Lib.hid hk
      go_enter Tryz.func59, Tryz.ntmps59
      clear hk
      go_wp2
      all_goals
        go_ret
        exact ⟨ret_bool (by rw [Hv.out]; simp), Hb.out⟩

theorem inR_ge (n lo hi : Int) : inR n lo hi = (decide (lo ≤ n) && decide (n ≤ hi)) := by
  unfold inR outside
  by_cases h1 : lo ≤ n <;> by_cases h2 : n ≤ hi
  · rw [decide_eq_true h1, decide_eq_true h2, decide_eq_false (by omega), decide_eq_false (by omega)]; rfl
  · rw [decide_eq_true h1, decide_eq_false h2, decide_eq_false (by omega), decide_eq_true (by omega)]; rfl
  · rw [decide_eq_false h1, decide_eq_true h2, decide_eq_true (by omega)]; rfl
  · rw [decide_eq_false h1, decide_eq_false h2, decide_eq_true (by omega)]; rfl
theorem oid_any (n : Int) (w : World) : Calls Tryz.prog 61 #[.int .i64 n] w fun e w' => e = .returned (.bool (inR n 0 4294967295)) ∧ w = w' := by
  have Ho := Lib.hid (inR_ge n 0 4294967295)
  generalize inR n 0 4294967295 = r at *
  by_cases h1 : 0 ≤ n
  · rw [decide_eq_true h1] at Ho
    go_enter Tryz.func61, Tryz.ntmps61
    go_wp2
    all_goals
      go_ret
      exact ⟨ret_bool (by rw [Ho.out]; simp_all), by first | rfl | trivial⟩
  · rw [decide_eq_false h1] at Ho
    go_enter Tryz.func61, Tryz.ntmps61
    go_wp2
    all_goals
      go_ret
      exact ⟨ret_bool (by rw [Ho.out]; simp_all), by first | rfl | trivial⟩

theorem status_any (x : BaV) (a : BaP) (w : World) : Calls Tryz.prog 62 #[baArg x a] w fun e w' => e = .returned (.bool (statusB x)) ∧ Below w.heap.size w w' := by
  have HB := Lib.hid (fun cs : Array Value => (Below.refl w.heap.size w).alloc (Nat.le_refl _) (.cells cs 39))
  have Hv : Hid (statusB x = ((!(x.kind == 90)) || ((x.status == 73) || ((x.status == 84) || (x.status == 69))))) := Lib.hid rfl
  generalize statusB x = v at *
  obtain ⟨xk, xs, xt, xn, xv, xa, xb, xo, xc, xr, xf⟩ := x
  obtain ⟨apo, aco, apc, acc, apr, acr, apf, acf⟩ := a
  unfold baArg
  unfold baCells
  dsimp only at *
  go_enter Tryz.func62, Tryz.ntmps62
  go_wp2_with fail
  all_goals
    go_ret
    refine ⟨ret_bool ?_, HB.out _⟩
    rw [Hv.out]
    simp_all [Bool.or_assoc]

theorem everyCo1_any (K : FuncId) (P : CoV → Bool) (g : Nat) (x : CoV) (w : World) (hg : w.cell? ⟨g, 0, none⟩ = some (.func (.func K) #[] #[])) (hlt : g < w.heap.size)
    (hE : ∀ (args : Array Value) (w0 : World), (callFunc K args).run Tryz.prog w0 = .ok (.enter K args) w0) (hK : ∀ (w0 : World), Below w.heap.size w w0 → Calls Tryz.prog K #[.agg #[.string x.name, .int .i64 x.table, .int .i64 x.attr, .int .i64 x.oid, .int .i64 x.size, .int .i64 x.mod, .int .i64 x.format]] w0 fun e w' => e = .returned (.bool (P x)) ∧ Below w0.heap.size w0 w') :
    Calls Tryz.prog 103 #[.agg #[.string x.name, .int .i64 x.table, .int .i64 x.attr, .int .i64 x.oid, .int .i64 x.size, .int .i64 x.mod, .int .i64 x.format], .pointer (some ⟨g, 0, none⟩)] w fun e w' => e = .returned (.bool (!P x)) ∧ Below w.heap.size w w' := by
  have HB0 := Lib.hid ((Below.refl w.heap.size w).alloc (Nat.le_refl _) (.cells #[.string x.name, .int .i64 x.table, .int .i64 x.attr, .int .i64 x.oid, .int .i64 x.size, .int .i64 x.mod, .int .i64 x.format] 79))
  have hg1 : (w.alloc (.cells #[.string x.name, .int .i64 x.table, .int .i64 x.attr, .int .i64 x.oid, .int .i64 x.size, .int .i64 x.mod, .int .i64 x.format] 79)).cell? ⟨g, 0, none⟩ = some (.func (.func K) #[] #[]) := (HB0.out.cell (p := ⟨g, 0, none⟩) hlt).trans hg
  have HK := Lib.hid (hK _ HB0.out)
  generalize P x = r at *
  obtain ⟨xn, xt, xa, xo, xs, xm, xf⟩ := x
  dsimp only at *
  clear hK
  go_enter Tryz.func103, Tryz.ntmps103
  go_wp2_with fail
  refine HK.out.mono ?_
  rintro e w2 ⟨rfl, hb⟩
  have HB2 := Lib.hid (HB0.out.trans (hb.mono HB0.out.size))
  clear hb
  go_wp2_with fail
  go_ret
  exact ⟨rfl, HB2.out⟩

theorem everyCo_any (K : FuncId) (P : CoV → Bool) (S : Nat → Prop) (p : Option Addr) (n c : Nat) (l : List CoV) (w : World) (h : SliceS 7 CoS S w [.slice p n c] l)
    (hE : ∀ (args : Array Value) (w0 : World), (callFunc K args).run Tryz.prog w0 = .ok (.enter K args) w0) (hK : ∀ (x : CoV) (w0 : World), Calls Tryz.prog K #[.agg #[.string x.name, .int .i64 x.table, .int .i64 x.attr, .int .i64 x.oid, .int .i64 x.size, .int .i64 x.mod, .int .i64 x.format]] w0 fun e w' => e = .returned (.bool (P x)) ∧ Below w0.heap.size w0 w') :
    Calls Tryz.prog 54 #[.slice p n c, .func (.func K) #[] #[]] w fun e w' => e = .returned (.bool (decide (l.length ≤ 65535) && !l.any (fun c => !P c))) ∧ Below w.heap.size w w' := by
  obtain ⟨rfl, hlc, hcm⟩ := h.len
  unfold maxLen at hcm
  have hmf : ∀ (fn : Fn) (first cap : Array Value) (w : World), (Instr.makeFunc fn first cap).run Tryz.prog w = .ok (.func fn first cap) w := fun _ _ _ _ => rfl
  have hbel : Below w.heap.size w (w.alloc (.cells #[.func (.func K) #[] #[]] 80)) := (Below.refl _ _).alloc (Nat.le_refl _) _
  have hb1 : Blk (w.alloc (.cells #[.func (.func K) #[] #[]] 80)) w.heap.size 80 #[.func (.func K) #[] #[]] := Blk.new _ _ _
  have Hb := Lib.hid (And.intro hb1 hbel)
  have H1 := Lib.hid (h.below CoS.still hbel)
  have hl1 := hb1.lt
  obtain ⟨bv, hbv⟩ : ∃ bv, bv = (decide (l.length ≤ 65535) && !l.any (fun c => !P c)) := ⟨_, rfl⟩
  have Hv : Hid (bv = (decide ((l.length : Int) ≤ 65535) && !l.any (fun c => !P c))) := Lib.hid (by rw [hbv]; congr 1; simp only [decide_eq_decide]; omega)
  rw [← hbv]
  clear h hb1 hbel hbv
  go_enter Tryz.func54, Tryz.ntmps54
  go_upto_region 1 with (fail)
  generalize w.alloc (.cells #[.func (.func K) #[] #[]] 80) = w1 at *
  have Hc := Lib.hid (containsCo1 103 (.pointer (some ⟨w.heap.size, 0, none⟩)) (fun c => !P c) S p _ c l w1 H1.out (enter_of Tryz.func103 (by kernel_rfl) rfl)
    (fun x  w0 hb _ => everyCo1_any K P w.heap.size x  w0 ((Hb.out.1.below hb hl1).cell 0) (by have := hb.size; omega) hE (fun w0 _ => hK x  w0)))
  generalize l.any (fun c => !P c) = av at *
  have HE := Lib.hid hE
  have HK := Lib.hid hK
  clear hE hK
  by_cases hlen : (l.length : Int) ≤ 65535
  · rw [decide_eq_true hlen] at Hv
    go_wp2_with fail
    refine Hc.out.mono ?_
    rintro e w2 ⟨rfl, hb⟩
    have HB := Lib.hid (Hb.out.2.trans (hb.mono Hb.out.2.size))
    clear hb
    go_wp2_with fail
    go_ret
    exact ⟨ret_bool (by rw [Hv.out]; rfl), HB.out⟩
  · rw [decide_eq_false hlen] at Hv
    go_wp2_with fail
    go_ret
    exact ⟨ret_bool (by rw [Hv.out]; rfl), Hb.out.2⟩

theorem everyFd1_any (K : FuncId) (P : FdV → Bool) (g : Nat) (x : FdV) (w : World) (hg : w.cell? ⟨g, 0, none⟩ = some (.func (.func K) #[] #[])) (hlt : g < w.heap.size)
    (hE : ∀ (args : Array Value) (w0 : World), (callFunc K args).run Tryz.prog w0 = .ok (.enter K args) w0) (hK : ∀ (w0 : World), Below w.heap.size w w0 → Calls Tryz.prog K #[.agg #[.int .u8 x.code, .string x.text]] w0 fun e w' => e = .returned (.bool (P x)) ∧ Below w0.heap.size w0 w') :
    Calls Tryz.prog 105 #[.agg #[.int .u8 x.code, .string x.text], .pointer (some ⟨g, 0, none⟩)] w fun e w' => e = .returned (.bool (!P x)) ∧ Below w.heap.size w w' := by
  have HB0 := Lib.hid ((Below.refl w.heap.size w).alloc (Nat.le_refl _) (.cells #[.int .u8 x.code, .string x.text] 87))
  have hg1 : (w.alloc (.cells #[.int .u8 x.code, .string x.text] 87)).cell? ⟨g, 0, none⟩ = some (.func (.func K) #[] #[]) := (HB0.out.cell (p := ⟨g, 0, none⟩) hlt).trans hg
  have HK := Lib.hid (hK _ HB0.out)
  generalize P x = r at *
  obtain ⟨xc, xt⟩ := x
  dsimp only at *
  clear hK
  go_enter Tryz.func105, Tryz.ntmps105
  go_wp2_with fail
  refine HK.out.mono ?_
  rintro e w2 ⟨rfl, hb⟩
  have HB2 := Lib.hid (HB0.out.trans (hb.mono HB0.out.size))
  clear hb
  go_wp2_with fail
  go_ret
  exact ⟨rfl, HB2.out⟩

theorem everyFd_any (K : FuncId) (P : FdV → Bool) (S : Nat → Prop) (p : Option Addr) (n c : Nat) (l : List FdV) (w : World) (h : SliceS 2 FdS S w [.slice p n c] l)
    (hE : ∀ (args : Array Value) (w0 : World), (callFunc K args).run Tryz.prog w0 = .ok (.enter K args) w0) (hK : ∀ (x : FdV) (w0 : World), Calls Tryz.prog K #[.agg #[.int .u8 x.code, .string x.text]] w0 fun e w' => e = .returned (.bool (P x)) ∧ Below w0.heap.size w0 w') :
    Calls Tryz.prog 56 #[.slice p n c, .func (.func K) #[] #[]] w fun e w' => e = .returned (.bool (decide (l.length ≤ 65535) && !l.any (fun c => !P c))) ∧ Below w.heap.size w w' := by
  obtain ⟨rfl, hlc, hcm⟩ := h.len
  unfold maxLen at hcm
  have hmf : ∀ (fn : Fn) (first cap : Array Value) (w : World), (Instr.makeFunc fn first cap).run Tryz.prog w = .ok (.func fn first cap) w := fun _ _ _ _ => rfl
  have hbel : Below w.heap.size w (w.alloc (.cells #[.func (.func K) #[] #[]] 88)) := (Below.refl _ _).alloc (Nat.le_refl _) _
  have hb1 : Blk (w.alloc (.cells #[.func (.func K) #[] #[]] 88)) w.heap.size 88 #[.func (.func K) #[] #[]] := Blk.new _ _ _
  have Hb := Lib.hid (And.intro hb1 hbel)
  have H1 := Lib.hid (h.below FdS.still hbel)
  have hl1 := hb1.lt
  obtain ⟨bv, hbv⟩ : ∃ bv, bv = (decide (l.length ≤ 65535) && !l.any (fun c => !P c)) := ⟨_, rfl⟩
  have Hv : Hid (bv = (decide ((l.length : Int) ≤ 65535) && !l.any (fun c => !P c))) := Lib.hid (by rw [hbv]; congr 1; simp only [decide_eq_decide]; omega)
  rw [← hbv]
  clear h hb1 hbel hbv
  go_enter Tryz.func56, Tryz.ntmps56
  go_upto_region 1 with (fail)
  generalize w.alloc (.cells #[.func (.func K) #[] #[]] 88) = w1 at *
  have Hc := Lib.hid (containsFd1 105 (.pointer (some ⟨w.heap.size, 0, none⟩)) (fun c => !P c) S p _ c l w1 H1.out (enter_of Tryz.func105 (by kernel_rfl) rfl)
    (fun x  w0 hb _ _ _ => everyFd1_any K P w.heap.size x  w0 ((Hb.out.1.below hb hl1).cell 0) (by have := hb.size; omega) hE (fun w0 _ => hK x  w0)))
  generalize l.any (fun c => !P c) = av at *
  have HE := Lib.hid hE
  have HK := Lib.hid hK
  clear hE hK
  by_cases hlen : (l.length : Int) ≤ 65535
  · rw [decide_eq_true hlen] at Hv
    go_wp2_with fail
    refine Hc.out.mono ?_
    rintro e w2 ⟨rfl, hb⟩
    have HB := Lib.hid (Hb.out.2.trans (hb.mono Hb.out.2.size))
    clear hb
    go_wp2_with fail
    go_ret
    exact ⟨ret_bool (by rw [Hv.out]; rfl), HB.out⟩
  · rw [decide_eq_false hlen] at Hv
    go_wp2_with fail
    go_ret
    exact ⟨ret_bool (by rw [Hv.out]; rfl), Hb.out.2⟩

theorem everyCe1_any (K : FuncId) (P : CeV → Bool) (g : Nat) (x : CeV) (q : Option Addr) (d : Nat) (w : World) (hg : w.cell? ⟨g, 0, none⟩ = some (.func (.func K) #[] #[])) (hlt : g < w.heap.size)
    (hE : ∀ (args : Array Value) (w0 : World), (callFunc K args).run Tryz.prog w0 = .ok (.enter K args) w0) (hK : ∀ (w0 : World), Below w.heap.size w w0 → Calls Tryz.prog K #[.agg #[.bool x.null, .slice q x.bytes.length d]] w0 fun e w' => e = .returned (.bool (P x)) ∧ Below w0.heap.size w0 w') :
    Calls Tryz.prog 106 #[.agg #[.bool x.null, .slice q x.bytes.length d], .pointer (some ⟨g, 0, none⟩)] w fun e w' => e = .returned (.bool (!P x)) ∧ Below w.heap.size w w' := by
  have HB0 := Lib.hid ((Below.refl w.heap.size w).alloc (Nat.le_refl _) (.cells #[.bool x.null, .slice q x.bytes.length d] 83))
  have hg1 : (w.alloc (.cells #[.bool x.null, .slice q x.bytes.length d] 83)).cell? ⟨g, 0, none⟩ = some (.func (.func K) #[] #[]) := (HB0.out.cell (p := ⟨g, 0, none⟩) hlt).trans hg
  have HK := Lib.hid (hK _ HB0.out)
  generalize P x = r at *
  obtain ⟨xn, xb⟩ := x
  dsimp only at *
  generalize xb.length = m at *
  clear hK
  go_enter Tryz.func106, Tryz.ntmps106
  go_wp2_with fail
  refine HK.out.mono ?_
  rintro e w2 ⟨rfl, hb⟩
  have HB2 := Lib.hid (HB0.out.trans (hb.mono HB0.out.size))
  clear hb
  go_wp2_with fail
  go_ret
  exact ⟨rfl, HB2.out⟩

theorem everyCe_any (K : FuncId) (P : CeV → Bool) (S : Nat → Prop) (p : Option Addr) (n c : Nat) (l : List CeV) (w : World) (h : SliceS 2 CeS S w [.slice p n c] l)
    (hE : ∀ (args : Array Value) (w0 : World), (callFunc K args).run Tryz.prog w0 = .ok (.enter K args) w0) (hK : ∀ (x : CeV) (q : Option Addr) (d : Nat) (w0 : World), Calls Tryz.prog K #[.agg #[.bool x.null, .slice q x.bytes.length d]] w0 fun e w' => e = .returned (.bool (P x)) ∧ Below w0.heap.size w0 w') :
    Calls Tryz.prog 58 #[.slice p n c, .func (.func K) #[] #[]] w fun e w' => e = .returned (.bool (decide (l.length ≤ 65535) && !l.any (fun c => !P c))) ∧ Below w.heap.size w w' := by
  obtain ⟨rfl, hlc, hcm⟩ := h.len
  unfold maxLen at hcm
  have hmf : ∀ (fn : Fn) (first cap : Array Value) (w : World), (Instr.makeFunc fn first cap).run Tryz.prog w = .ok (.func fn first cap) w := fun _ _ _ _ => rfl
  have hbel : Below w.heap.size w (w.alloc (.cells #[.func (.func K) #[] #[]] 84)) := (Below.refl _ _).alloc (Nat.le_refl _) _
  have hb1 : Blk (w.alloc (.cells #[.func (.func K) #[] #[]] 84)) w.heap.size 84 #[.func (.func K) #[] #[]] := Blk.new _ _ _
  have Hb := Lib.hid (And.intro hb1 hbel)
  have H1 := Lib.hid (h.below CeS.still hbel)
  have hl1 := hb1.lt
  obtain ⟨bv, hbv⟩ : ∃ bv, bv = (decide (l.length ≤ 65535) && !l.any (fun c => !P c)) := ⟨_, rfl⟩
  have Hv : Hid (bv = (decide ((l.length : Int) ≤ 65535) && !l.any (fun c => !P c))) := Lib.hid (by rw [hbv]; congr 1; simp only [decide_eq_decide]; omega)
  rw [← hbv]
  clear h hb1 hbel hbv
  go_enter Tryz.func58, Tryz.ntmps58
  go_upto_region 1 with (fail)
  generalize w.alloc (.cells #[.func (.func K) #[] #[]] 84) = w1 at *
  have Hc := Lib.hid (containsCe1 106 (.pointer (some ⟨w.heap.size, 0, none⟩)) (fun c => !P c) S p _ c l w1 H1.out (enter_of Tryz.func106 (by kernel_rfl) rfl)
    (fun x q d w0 hb  => everyCe1_any K P w.heap.size x q d w0 ((Hb.out.1.below hb hl1).cell 0) (by have := hb.size; omega) hE (fun w0 _ => hK x q d w0)))
  generalize l.any (fun c => !P c) = av at *
  have HE := Lib.hid hE
  have HK := Lib.hid hK
  clear hE hK
  by_cases hlen : (l.length : Int) ≤ 65535
  · rw [decide_eq_true hlen] at Hv
    go_wp2_with fail
    refine Hc.out.mono ?_
    rintro e w2 ⟨rfl, hb⟩
    have HB := Lib.hid (Hb.out.2.trans (hb.mono Hb.out.2.size))
    clear hb
    go_wp2_with fail
    go_ret
    exact ⟨ret_bool (by rw [Hv.out]; rfl), HB.out⟩
  · rw [decide_eq_false hlen] at Hv
    go_wp2_with fail
    go_ret
    exact ⟨ret_bool (by rw [Hv.out]; rfl), Hb.out.2⟩

theorem everyIn1_any (K : FuncId) (P : Int → Bool) (g : Nat) (x : Int) (w : World) (hg : w.cell? ⟨g, 0, none⟩ = some (.func (.func K) #[] #[])) (hlt : g < w.heap.size)
    (hE : ∀ (args : Array Value) (w0 : World), (callFunc K args).run Tryz.prog w0 = .ok (.enter K args) w0) (hK : ∀ (w0 : World), Below w.heap.size w w0 → Calls Tryz.prog K #[.int .i64 x] w0 fun e w' => e = .returned (.bool (P x)) ∧ Below w0.heap.size w0 w') :
    Calls Tryz.prog 108 #[.int .i64 x, .pointer (some ⟨g, 0, none⟩)] w fun e w' => e = .returned (.bool (!P x)) ∧ Below w.heap.size w w' := by
  have HK := Lib.hid (hK _ (Below.refl _ _))
  generalize P x = r at *
  clear hK
  go_enter Tryz.func108, Tryz.ntmps108
  go_wp2_with fail
  refine HK.out.mono ?_
  rintro e w2 ⟨rfl, hb⟩
  have HB2 := Lib.hid hb
  clear hb
  go_wp2_with fail
  go_ret
  exact ⟨rfl, HB2.out⟩

theorem everyIn_any (K : FuncId) (P : Int → Bool) (S : Nat → Prop) (p : Option Addr) (n c : Nat) (l : List Int) (w : World) (h : SliceS 1 IntU S w [.slice p n c] l)
    (hE : ∀ (args : Array Value) (w0 : World), (callFunc K args).run Tryz.prog w0 = .ok (.enter K args) w0) (hK : ∀ (x : Int) (w0 : World), Calls Tryz.prog K #[.int .i64 x] w0 fun e w' => e = .returned (.bool (P x)) ∧ Below w0.heap.size w0 w') :
    Calls Tryz.prog 60 #[.slice p n c, .func (.func K) #[] #[]] w fun e w' => e = .returned (.bool (decide (l.length ≤ 65535) && !l.any (fun c => !P c))) ∧ Below w.heap.size w w' := by
  obtain ⟨rfl, hlc, hcm⟩ := h.len
  unfold maxLen at hcm
  have hmf : ∀ (fn : Fn) (first cap : Array Value) (w : World), (Instr.makeFunc fn first cap).run Tryz.prog w = .ok (.func fn first cap) w := fun _ _ _ _ => rfl
  have hbel : Below w.heap.size w (w.alloc (.cells #[.func (.func K) #[] #[]] 106)) := (Below.refl _ _).alloc (Nat.le_refl _) _
  have hb1 : Blk (w.alloc (.cells #[.func (.func K) #[] #[]] 106)) w.heap.size 106 #[.func (.func K) #[] #[]] := Blk.new _ _ _
  have Hb := Lib.hid (And.intro hb1 hbel)
  have H1 := Lib.hid (h.below IntU.still hbel)
  have hl1 := hb1.lt
  obtain ⟨bv, hbv⟩ : ∃ bv, bv = (decide (l.length ≤ 65535) && !l.any (fun c => !P c)) := ⟨_, rfl⟩
  have Hv : Hid (bv = (decide ((l.length : Int) ≤ 65535) && !l.any (fun c => !P c))) := Lib.hid (by rw [hbv]; congr 1; simp only [decide_eq_decide]; omega)
  rw [← hbv]
  clear h hb1 hbel hbv
  go_enter Tryz.func60, Tryz.ntmps60
  go_upto_region 1 with (fail)
  generalize w.alloc (.cells #[.func (.func K) #[] #[]] 106) = w1 at *
  have Hc := Lib.hid (containsIn1 108 (.pointer (some ⟨w.heap.size, 0, none⟩)) (fun c => !P c) S p _ c l w1 H1.out (enter_of Tryz.func108 (by kernel_rfl) rfl)
    (fun x  w0 hb  => everyIn1_any K P w.heap.size x  w0 ((Hb.out.1.below hb hl1).cell 0) (by have := hb.size; omega) hE (fun w0 _ => hK x  w0)))
  generalize l.any (fun c => !P c) = av at *
  have HE := Lib.hid hE
  have HK := Lib.hid hK
  clear hE hK
  by_cases hlen : (l.length : Int) ≤ 65535
  · rw [decide_eq_true hlen] at Hv
    go_wp2_with fail
    refine Hc.out.mono ?_
    rintro e w2 ⟨rfl, hb⟩
    have HB := Lib.hid (Hb.out.2.trans (hb.mono Hb.out.2.size))
    clear hb
    go_wp2_with fail
    go_ret
    exact ⟨ret_bool (by rw [Hv.out]; rfl), HB.out⟩
  · rw [decide_eq_false hlen] at Hv
    go_wp2_with fail
    go_ret
    exact ⟨ret_bool (by rw [Hv.out]; rfl), Hb.out.2⟩

/-- The lists of a message: may they be. -/
theorem bcols_any (S : Nat → Prop) (p : Option Addr) (n c : Nat) (l : List CoV) (w : World) (h : SliceS 7 CoS S w [.slice p n c] l) :
    Calls Tryz.prog 54 #[.slice p n c, .func (.func 55) #[] #[]] w fun e w' => e = .returned (.bool (colsB l)) ∧ Below w.heap.size w w' :=
  everyCo_any 55 colB S p n c l w h (enter_of Tryz.func55 (by kernel_rfl) rfl) (fun x w0 => column_any x w0)
theorem bfields_any (S : Nat → Prop) (p : Option Addr) (n c : Nat) (l : List FdV) (w : World) (h : SliceS 2 FdS S w [.slice p n c] l) :
    Calls Tryz.prog 56 #[.slice p n c, .func (.func 57) #[] #[]] w fun e w' => e = .returned (.bool (fieldsB l)) ∧ Below w.heap.size w w' :=
  everyFd_any 57 fieldB S p n c l w h (enter_of Tryz.func57 (by kernel_rfl) rfl) (fun x w0 => field_any x w0)
theorem any_nn {α : Type} (P : α → Bool) (l : List α) : l.any (fun c => !!P c) = l.any P := by simp
theorem brow_any (S : Nat → Prop) (p : Option Addr) (n c : Nat) (l : List CeV) (w : World) (h : SliceS 2 CeS S w [.slice p n c] l) :
    Calls Tryz.prog 58 #[.slice p n c, .func (.func 59) #[] #[]] w fun e w' => e = .returned (.bool (valuesV l)) ∧ Below w.heap.size w w' := by
  have := everyCe_any 59 (fun c => !wrongC c) S p n c l w h (enter_of Tryz.func59 (by kernel_rfl) rfl) (fun x q d w0 => bcell_any x q d w0)
  rw [any_nn] at this
  exact this
theorem boids_any (S : Nat → Prop) (p : Option Addr) (n c : Nat) (l : List Int) (w : World) (h : SliceS 1 IntU S w [.slice p n c] l) :
    Calls Tryz.prog 60 #[.slice p n c, .func (.func 61) #[] #[]] w fun e w' => e = .returned (.bool (between l 0 4294967295)) ∧ Below w.heap.size w w' := by
  have := everyIn_any 61 (fun n => inR n 0 4294967295) S p n c l w h (enter_of Tryz.func61 (by kernel_rfl) rfl) (fun x w0 => (oid_any x w0).mono fun e w' h => ⟨h.1, by rw [← h.2]; exact Below.refl _ _⟩)
  have e : l.any (fun c => !inR c 0 4294967295) = l.any (outside 0 4294967295) := by simp [inR]
  rw [e] at this
  exact this

end Go.Proofs.YthhebfknikfleaaGreat

/-
  A region that draws its order, walked operation by operation, where a guard within it is false: moves whose state is written out.
-/
namespace Go.Proofs.YthhebfknikfleaaGreat
open Go.RowKit
set_option linter.unusedVariables false
set_option linter.unusedSimpArgs false

section
variable {P : Program} {ops : Array Oper} {Q : Exit → Act → World → Prop} {md : Region.Mode} {S : World → Prop}

/-- An operation that yields its value is taken first. -/
theorem wpAnyH_takeD {i : Nat} {oi : Oper} {v : Value} {d : Tmp} {fuel : Nat} {listed : Array Bool} {a : Act} {w : World} (hi : ops[i]? = some oi) (hd : oi.dst = some d)
    (hs : Region.noSelect ops = true) (hf : Region.free md ops listed i = true) (hr : (Region.ready md ops listed).contains i = true)
    (hQ : ∀ c a w, Q (.panic c) (a.put oi.dst v) w → Q (.panic c) a w) (hw : Region.wanted oi (yielded ops a.tmps) = true) (hv : ∀ w, S w → (execOp a.eval oi).run P w = .ok (.value v) w) (hS : S w)
    (h : wpAnyH P md ops Q S fuel (listed.setIfInBounds i true) (a.put (some d) v) w) : wpAnyH P md ops Q S (fuel + 1) listed a w := by
  rw [← hd] at h
  exact wpAnyH_take hi hs hf hr hQ (.inl ⟨hw, hv⟩) hS h
/-- An operation that is not wanted. -/
theorem wpAnyH_offD {i : Nat} {oi : Oper} {d : Tmp} {fuel : Nat} {listed : Array Bool} {a : Act} {w : World} (hi : ops[i]? = some oi) (hd : oi.dst = some d)
    (hs : Region.noSelect ops = true) (hf : Region.free md ops listed i = true) (hr : (Region.ready md ops listed).contains i = true)
    (hQ : ∀ c a w, Q (.panic c) (a.put oi.dst undef) w → Q (.panic c) a w) (hw : Region.wanted oi (yielded ops a.tmps) = false) (hS : S w)
    (h : wpAnyH P md ops Q S fuel (listed.setIfInBounds i true) (a.put (some d) undef) w) : wpAnyH P md ops Q S (fuel + 1) listed a w := by
  rw [← hd] at h
  exact wpAnyH_take hi hs hf hr hQ (.inr ⟨hw, rfl⟩) hS h
/-- The one call that may come up. -/
theorem wpAnyH_callD {i : Nat} {oi : Oper} {d : Tmp} {fuel : Nat} {listed : Array Bool} {a : Act} {w : World} (hi : ops[i]? = some oi) (hd : oi.dst = some d)
    (hr : Region.ready md ops listed = [i]) (hw : Region.wanted oi (yielded ops a.tmps) = true) (f : FuncId) (vs : Array Value) (R : Ending → World → Prop) (hC : Calls P f vs w R)
    (hrun : (execOp a.eval oi).run P w = .ok (.enter f vs) w)
    (h : ∀ e w', R e w' → ∃ v, e = .returned v ∧ S w' ∧ wpAnyH P md ops Q S fuel (listed.setIfInBounds i true) (a.put (some d) v) w') : wpAnyH P md ops Q S (fuel + 1) listed a w := by
  refine wpAnyH_ready hr (by simp) (AllReadyH.cons hi (fun K hK => ?_) AllReadyH.nil)
  rw [if_pos hw]
  unfold Oper.wp
  rw [hrun, Oper.upon_enter]
  refine hC.mono ?_
  intro e w' hR
  obtain ⟨v, rfl, hS, hq⟩ := h e w' hR
  rw [← hd] at hq
  exact hK.out _ _ hS (fun _ => hq)
end

end Go.Proofs.YthhebfknikfleaaGreat

/-
  Messages of servers (layer 7): whether one may be: the program's.
-/
namespace Go.Proofs.YthhebfknikfleaaGreat
open Go.RowKit
set_option linter.unusedVariables false
set_option linter.unusedSimpArgs false

/-- A message in a block. -/
structure Ba1 (w0 w : World) (g : Nat) (x : BaV) (a : BaP) : Prop where
  b : Blk w g 39 (baCells x a)
  l : BaL (fun _ => True) w x a
  bel : Below w0.heap.size w0 w
section
variable {w0 w w' : World} {g : Nat} {x : BaV} {a : BaP}
theorem Ba1.step (h : Ba1 w0 w g x a) (hb : Below w.heap.size w w') : Ba1 w0 w' g x a := ⟨h.b.below hb h.b.lt, h.l.below hb, h.bel.trans (hb.mono h.bel.size)⟩
theorem Ba1.drew1 (h : Ba1 w0 w g x a) : Ba1 w0 (w.drewN 1) g x a := h.step (bel_drawN w 1)
theorem Ba1.start {S : Nat → Prop} {w : World} (h : BaL S w x a) : Ba1 w (w.alloc (.cells (baCells x a) 39)) w.heap.size x a := by
  have hb : Below w.heap.size w (w.alloc (.cells (baCells x a) 39)) := (Below.refl _ _).alloc (Nat.le_refl _) _
  exact ⟨Blk.new _ _ _, (h.below hb).any, hb⟩
end

theorem below_drewN' {B : Nat} (w : World) (r : Nat) (hB : B ≤ w.heap.size) : Below B w (w.drewN r) := ((Touch.refl (fun _ => False) w).drewN r).below hB (fun _ e => e.elim)

set_option maxRecDepth 100000 in
set_option maxHeartbeats 4000000 in
theorem bcheck_any (S : Nat → Prop) (x : BaV) (a : BaP) (w : World) (h : BaL S w x a) (hfb : BaB x) : Calls Tryz.prog 19 #[baArg x a] w fun e w' => e = .returned (.int .i64 (checkB x)) ∧ Below w.heap.size w w' := by
  have H0 := Lib.hid (Ba1.start h)
  have Hv : Hid (checkB x = if servK x.kind = true then (if okB x = true then 0 else 1) else 9) := Lib.hid rfl
  have Hok : Hid (okB x = ((cleanB x.tag && (cleanB x.name && cleanB x.value)) && ((colsB x.cols && (fieldsB x.fields && (valuesV x.row && between x.oids 0 4294967295))) && (inR x.n 0 4294967295 && (inR x.m 0 4294967295 && (statusB x && baEq x (keptB x))))))) := Lib.hid (by
    unfold okB listsB textsB numsB7
    generalize (cleanB x.tag && (cleanB x.name && cleanB x.value)) = a1
    generalize colsB x.cols = a2
    generalize fieldsB x.fields = a3
    generalize valuesV x.row = a4
    generalize between x.oids 0 4294967295 = a5
    generalize inR x.n 0 4294967295 = a6
    generalize inR x.m 0 4294967295 = a7
    generalize statusB x = a8
    generalize baEq x (keptB x) = a9
    cases a1 <;> cases a2 <;> cases a3 <;> cases a4 <;> cases a5 <;> cases a6 <;> cases a7 <;> cases a8 <;> cases a9 <;> rfl)
  have HKn := Lib.hid (fun w0 : World => bknown_any x.kind hfb.1 hfb.2.1 w0)
  have HT1 := Lib.hid (fun w0 : World => clean_any x.tag w0)
  have HT2 := Lib.hid (fun w0 : World => clean_any x.name w0)
  have HT3 := Lib.hid (fun w0 : World => clean_any x.value w0)
  have HI1 := Lib.hid (fun w0 : World => oid_any x.n w0)
  have HI2 := Lib.hid (fun w0 : World => oid_any x.m w0)
  have HQ1 := Lib.hid (fun w0 : World => (oid_any x.n w0).mono (fun e w' h => (⟨h.1, h.2.symm⟩ : e = .returned (.bool (inR x.n 0 4294967295)) ∧ w' = w0)))
  have HQ2 := Lib.hid (fun w0 : World => (oid_any x.m w0).mono (fun e w' h => (⟨h.1, h.2.symm⟩ : e = .returned (.bool (inR x.m 0 4294967295)) ∧ w' = w0)))
  have HO := Lib.hid (fun (w0 : World) (H : Ba1 w w0 w.heap.size x a) => boids_any _ _ _ _ _ w0 H.l.lo)
  have HD := Lib.hid (fun (w0 : World) (H : Ba1 w w0 w.heap.size x a) => bcols_any _ _ _ _ _ w0 H.l.lc)
  have HF := Lib.hid (fun (w0 : World) (H : Ba1 w w0 w.heap.size x a) => bfields_any _ _ _ _ _ w0 H.l.lf)
  have HP := Lib.hid (fun (w0 : World) (H : Ba1 w w0 w.heap.size x a) => brow_any _ _ _ _ _ w0 H.l.lr)
  have HSt := Lib.hid (fun w0 : World => status_any x a w0)
  have HOf := Lib.hid (fun (w0 : World) (H : Ba1 w w0 w.heap.size x a) => bof_any _ x a w0 H.l)
  have HSm := Lib.hid (fun (a' : BaP) (w0 : World) (H : Ba1 w w0 w.heap.size x a) hk => bsame_any _ (fun _ => True) x (keptB x) a a' w0 H.l hk)
  have HC : Hid (∀ w1 : World, Ba1 w w1 w.heap.size x a → ∀ i, w1.cell? ⟨w.heap.size, i, none⟩ = (baCells x a)[i]?) := Lib.hid (fun w1 H => H.b.cell)
  unfold KeptB at HOf
  generalize checkB x = cv at *
  generalize okB x = ov at *
  generalize servK x.kind = kv at *
  generalize cleanB x.tag = t1 at *
  generalize cleanB x.name = t2 at *
  generalize cleanB x.value = t3 at *
  generalize colsB x.cols = bd at *
  generalize fieldsB x.fields = bf at *
  generalize valuesV x.row = br at *
  generalize between x.oids 0 4294967295 = bo at *
  generalize inR x.n 0 4294967295 = bn at *
  generalize inR x.m 0 4294967295 = bm at *
  generalize statusB x = stv at *
  generalize baEq x (keptB x) = sv at *
  generalize keptB x = kx at *
  obtain ⟨xk, xs, xt, xn, xv, xa, xb, xo, xc, xr, xf⟩ := x
  obtain ⟨apo, aco, apc, acc, apr, acr, apf, acf⟩ := a
  clear h hfb
  unfold baArg at *
  dsimp only at *
  generalize hKXA : kx = kx' at *
  clear hKXA
  unfold baCells at HC HOf HSm HSt ⊢
  dsimp only at HC HOf HSm HSt ⊢
  go_enter Tryz.func19, Tryz.ntmps19
  go_upto_region 1 with (fail)
  unfold baCells at H0
  dsimp only at H0
  generalize w.alloc (.cells #[.int .u8 xk, .int .u8 xs, .string xt, .string xn, .string xv, .int .i64 xa, .int .i64 xb, .slice apo xo.length aco, .slice apc xc.length acc, .slice apr xr.length acr, .slice apf xf.length acf] 39) = w1 at *
  have hc1 := HC.out w1 H0.out
  go_wp2_with fail
  refine (HKn.out _).mono ?_
  rintro e w2 ⟨rfl, hb⟩
  have H2 := Lib.hid (H0.out.step hb)
  have hc2 := HC.out w2 H2.out
  clear hb hc1
  cases kv with
  | false =>
    have Hv2 : Hid (cv = 9) := Lib.hid (by rw [Hv.out]; rfl)
    go_wp2_with fail
    go_ret
    exact ⟨ret_int Hv2.out.symm, H2.out.bel⟩
  | true =>
    have Hv2 : Hid (cv = if ov = true then 0 else 1) := Lib.hid (by rw [Hv.out]; rfl)
    obtain ⟨tv, htv⟩ : ∃ tv, tv = (t1 && (t2 && t3)) := ⟨_, rfl⟩
    have Htv := Lib.hid htv
    obtain ⟨lv, hlv⟩ : ∃ lv, lv = (bd && (bf && (br && bo))) := ⟨_, rfl⟩
    have Hlv := Lib.hid hlv
    rw [← hlv, ← htv] at Hok
    clear hlv htv Hv HKn
    go_upto_region 3 with fail
    go_cut [3] (fun v wx => v = .bool tv ∧ wx = w2)
    case first =>
      go_wp2_with fail
      refine (HT1.out _).mono ?_
      rintro e w3 ⟨rfl, rfl⟩
      cases t1 with
      | false =>
        go_wp2_with fail
        go_meet
        exact ⟨by rw [Htv.out]; rfl, rfl⟩
      | true =>
        go_wp2_with fail
        refine (HT2.out _).mono ?_
        rintro e w3 ⟨rfl, rfl⟩
        cases t2 with
        | false =>
          go_wp2_with fail
          go_meet
          exact ⟨by rw [Htv.out]; rfl, rfl⟩
        | true =>
          go_wp2_with fail
          refine (HT3.out _).mono ?_
          rintro e w3 ⟨rfl, rfl⟩
          go_wp2_with fail
          go_meet
          exact ⟨by rw [Htv.out]; rfl, rfl⟩
    case rest =>
      obtain ⟨rfl, rfl⟩ := hcut
      go_upto_region 4 with fail
      go_cut [4] (fun v wx => v = .bool lv ∧ Ba1 w wx w.heap.size ⟨xk, xs, xt, xn, xv, xa, xb, xo, xc, xr, xf⟩ ⟨apo, aco, apc, acc, apr, acr, apf, acf⟩)
      case first =>
        go_wp2_with fail
        refine (HD.out _ H2.out).mono ?_
        rintro e w3 ⟨rfl, hb⟩
        have H3 := Lib.hid (H2.out.step hb)
        have hc3 := HC.out w3 H3.out
        clear hb hc2
        cases bd with
        | false =>
          go_wp2_with fail
          go_meet
          exact ⟨by rw [Hlv.out]; rfl, H3.out⟩
        | true =>
          go_wp2_with fail
          refine (HF.out _ H3.out).mono ?_
          rintro e w4 ⟨rfl, hb⟩
          have H4 := Lib.hid (H3.out.step hb)
          have hc4 := HC.out w4 H4.out
          clear hb hc3
          cases bf with
          | false =>
            go_wp2_with fail
            go_meet
            exact ⟨by rw [Hlv.out]; rfl, H4.out⟩
          | true =>
            go_wp2_with fail
            refine (HP.out _ H4.out).mono ?_
            rintro e w5 ⟨rfl, hb⟩
            have H5 := Lib.hid (H4.out.step hb)
            have hc5 := HC.out w5 H5.out
            clear hb hc4
            cases br with
            | false =>
              go_wp2_with fail
              go_meet
              exact ⟨by rw [Hlv.out]; rfl, H5.out⟩
            | true =>
              go_wp2_with fail
              refine (HO.out _ H5.out).mono ?_
              rintro e w6 ⟨rfl, hb⟩
              have H6 := Lib.hid (H5.out.step hb)
              have hc6 := HC.out w6 H6.out
              clear hb hc5
              go_wp2_with fail
              go_meet
              exact ⟨by rw [Hlv.out]; rfl, H6.out⟩
      case rest =>
        obtain ⟨rfl, hf⟩ := hcut
        have H3 := Lib.hid hf
        have hc3 := HC.out wc H3.out
        clear hf hc2 H2 HO HD HF HP HT1 HT2 HT3
        cases tv with
        | false =>
          go_wp2_with fail
          go_quiet (fail)
          go_wp2_with fail
          go_ret
          exact ⟨ret_int (by rw [Hv2.out, Hok.out]; simp), H3.out.bel.trans (below_drewN' _ _ H3.out.bel.size)⟩
        | true =>
          cases lv with
          | false =>
            go_wp2_with fail
            go_quiet (fail)
            go_wp2_with fail
            go_ret
            exact ⟨ret_int (by rw [Hv2.out, Hok.out]; simp), H3.out.bel.trans (below_drewN' _ _ H3.out.bel.size)⟩
          | true =>
            cases bn with
            | false =>
              go_wp2_with fail
              go_quiet ((go_at_call 61; exact Calls.quiet_of_same (HQ1.out _)))
              go_wp2_with fail
              go_ret
              exact ⟨ret_int (by rw [Hv2.out, Hok.out]; simp), H3.out.bel.trans (below_drewN' _ _ H3.out.bel.size)⟩
            | true =>
              cases bm with
              | false =>
                go_wp2_with fail
                go_quiet (first | (go_at_call 61; exact Calls.quiet_of_same (HQ1.out _)) | (go_at_call 61; exact Calls.quiet_of_same (HQ2.out _)))
                go_wp2_with fail
                go_ret
                exact ⟨ret_int (by rw [Hv2.out, Hok.out]; simp), H3.out.bel.trans (below_drewN' _ _ H3.out.bel.size)⟩
              | true =>
                cases stv with
                | false =>
                  go_upto_region 5 with fail
                  refine wp_region_held_drew (S := (fun w' => ∀ i, w'.cell? ⟨w.heap.size, i, none⟩ = (#[.int .u8 xk, .int .u8 xs, .string xt, .string xn, .string xv, .int .i64 xa, .int .i64 xb, .slice apo xo.length aco, .slice apc xc.length acc, .slice apr xr.length acr, .slice apf xf.length acf] : Array Value)[i]?)) (by kernel_rfl) (hc3) (fun hHeld => ?_)
                  refine wpAnyH_takeD (i := 0) (v := ?vb1_0) rfl rfl (by kernel_rfl) (by kernel_rfl) (by kernel_rfl) (fun _ _ _ h => h) (by rfl) ?yb1_0 (by assumption) ?rb1_0
                  case yb1_0 => (intro w hSw; (try dsimp only at hSw); go_simp; try (with_reducible rfl))
                  try simp only [Act.put, List.setIfInBounds_toArray, List.set_cons_zero, List.set_cons_succ]
                  refine wpAnyH_takeD (i := 1) (v := ?vb1_1) rfl rfl (by kernel_rfl) (by kernel_rfl) (by kernel_rfl) (fun _ _ _ h => h) (by rfl) ?yb1_1 (by assumption) ?rb1_1
                  case yb1_1 => (intro w hSw; (try dsimp only at hSw); go_simp; try (with_reducible rfl))
                  try simp only [Act.put, List.setIfInBounds_toArray, List.set_cons_zero, List.set_cons_succ]
                  refine wpAnyH_takeD (i := 2) (v := ?vb1_2) rfl rfl (by kernel_rfl) (by kernel_rfl) (by kernel_rfl) (fun _ _ _ h => h) (by rfl) ?yb1_2 (by assumption) ?rb1_2
                  case yb1_2 => (intro w hSw; (try dsimp only at hSw); go_simp; try (with_reducible rfl))
                  try simp only [Act.put, List.setIfInBounds_toArray, List.set_cons_zero, List.set_cons_succ]
                  refine wpAnyH_takeD (i := 3) (v := ?vb1_3) rfl rfl (by kernel_rfl) (by kernel_rfl) (by kernel_rfl) (fun _ _ _ h => h) (by rfl) ?yb1_3 (by assumption) ?rb1_3
                  case yb1_3 => (intro w hSw; (try dsimp only at hSw); go_simp; try (with_reducible rfl))
                  try simp only [Act.put, List.setIfInBounds_toArray, List.set_cons_zero, List.set_cons_succ]
                  refine wpAnyH_takeD (i := 4) (v := ?vb1_4) rfl rfl (by kernel_rfl) (by kernel_rfl) (by kernel_rfl) (fun _ _ _ h => h) (by rfl) ?yb1_4 (by assumption) ?rb1_4
                  case yb1_4 => (intro w hSw; (try dsimp only at hSw); go_simp; try (with_reducible rfl))
                  try simp only [Act.put, List.setIfInBounds_toArray, List.set_cons_zero, List.set_cons_succ]
                  refine wpAnyH_takeD (i := 5) (v := ?vb1_5) rfl rfl (by kernel_rfl) (by kernel_rfl) (by kernel_rfl) (fun _ _ _ h => h) (by rfl) ?yb1_5 (by assumption) ?rb1_5
                  case yb1_5 => (intro w hSw; (try dsimp only at hSw); go_simp; try (with_reducible rfl))
                  try simp only [Act.put, List.setIfInBounds_toArray, List.set_cons_zero, List.set_cons_succ]
                  refine wpAnyH_takeD (i := 6) (v := ?vb1_6) rfl rfl (by kernel_rfl) (by kernel_rfl) (by kernel_rfl) (fun _ _ _ h => h) (by rfl) ?yb1_6 (by assumption) ?rb1_6
                  case yb1_6 => (intro w hSw; (try dsimp only at hSw); go_simp; try (with_reducible rfl))
                  try simp only [Act.put, List.setIfInBounds_toArray, List.set_cons_zero, List.set_cons_succ]
                  refine wpAnyH_takeD (i := 7) (v := ?vb1_7) rfl rfl (by kernel_rfl) (by kernel_rfl) (by kernel_rfl) (fun _ _ _ h => h) (by rfl) ?yb1_7 (by assumption) ?rb1_7
                  case yb1_7 => (intro w hSw; (try dsimp only at hSw); go_simp; try (with_reducible rfl))
                  try simp only [Act.put, List.setIfInBounds_toArray, List.set_cons_zero, List.set_cons_succ]
                  refine wpAnyH_takeD (i := 8) (v := ?vb1_8) rfl rfl (by kernel_rfl) (by kernel_rfl) (by kernel_rfl) (fun _ _ _ h => h) (by rfl) ?yb1_8 (by assumption) ?rb1_8
                  case yb1_8 => (intro w hSw; (try dsimp only at hSw); go_simp; try (with_reducible rfl))
                  try simp only [Act.put, List.setIfInBounds_toArray, List.set_cons_zero, List.set_cons_succ]
                  refine wpAnyH_callD (i := 9) rfl rfl (by kernel_rfl) (by rfl) 61 _ _ (HI1.out _) (by go_simp) ?_
                  rintro e wz ⟨rfl, rfl⟩
                  refine ⟨_, rfl, hHeld, ?_⟩
                  have hHeld := hHeld
                  try simp only [Act.put, List.setIfInBounds_toArray, List.set_cons_zero, List.set_cons_succ]
                  refine wpAnyH_takeD (i := 10) (v := ?vb1_10) rfl rfl (by kernel_rfl) (by kernel_rfl) (by kernel_rfl) (fun _ _ _ h => h) (by rfl) ?yb1_10 (by assumption) ?rb1_10
                  case yb1_10 => (intro w hSw; (try dsimp only at hSw); go_simp; try (with_reducible rfl))
                  try simp only [Act.put, List.setIfInBounds_toArray, List.set_cons_zero, List.set_cons_succ]
                  refine wpAnyH_takeD (i := 11) (v := ?vb1_11) rfl rfl (by kernel_rfl) (by kernel_rfl) (by kernel_rfl) (fun _ _ _ h => h) (by rfl) ?yb1_11 (by assumption) ?rb1_11
                  case yb1_11 => (intro w hSw; (try dsimp only at hSw); go_simp; try (with_reducible rfl))
                  try simp only [Act.put, List.setIfInBounds_toArray, List.set_cons_zero, List.set_cons_succ]
                  refine wpAnyH_takeD (i := 12) (v := ?vb1_12) rfl rfl (by kernel_rfl) (by kernel_rfl) (by kernel_rfl) (fun _ _ _ h => h) (by rfl) ?yb1_12 (by assumption) ?rb1_12
                  case yb1_12 => (intro w hSw; (try dsimp only at hSw); go_simp; try (with_reducible rfl))
                  try simp only [Act.put, List.setIfInBounds_toArray, List.set_cons_zero, List.set_cons_succ]
                  refine wpAnyH_takeD (i := 13) (v := ?vb1_13) rfl rfl (by kernel_rfl) (by kernel_rfl) (by kernel_rfl) (fun _ _ _ h => h) (by rfl) ?yb1_13 (by assumption) ?rb1_13
                  case yb1_13 => (intro w hSw; (try dsimp only at hSw); go_simp; try (with_reducible rfl))
                  try simp only [Act.put, List.setIfInBounds_toArray, List.set_cons_zero, List.set_cons_succ]
                  refine wpAnyH_takeD (i := 14) (v := ?vb1_14) rfl rfl (by kernel_rfl) (by kernel_rfl) (by kernel_rfl) (fun _ _ _ h => h) (by rfl) ?yb1_14 (by assumption) ?rb1_14
                  case yb1_14 => (intro w hSw; (try dsimp only at hSw); go_simp; try (with_reducible rfl))
                  try simp only [Act.put, List.setIfInBounds_toArray, List.set_cons_zero, List.set_cons_succ]
                  refine wpAnyH_callD (i := 15) rfl rfl (by kernel_rfl) (by rfl) 61 _ _ (HI2.out _) (by go_simp) ?_
                  rintro e wz ⟨rfl, rfl⟩
                  refine ⟨_, rfl, hHeld, ?_⟩
                  have hHeld := hHeld
                  try simp only [Act.put, List.setIfInBounds_toArray, List.set_cons_zero, List.set_cons_succ]
                  refine wpAnyH_takeD (i := 16) (v := ?vb1_16) rfl rfl (by kernel_rfl) (by kernel_rfl) (by kernel_rfl) (fun _ _ _ h => h) (by rfl) ?yb1_16 (by assumption) ?rb1_16
                  case yb1_16 => (intro w hSw; (try dsimp only at hSw); go_simp; try (with_reducible rfl))
                  try simp only [Act.put, List.setIfInBounds_toArray, List.set_cons_zero, List.set_cons_succ]
                  refine wpAnyH_takeD (i := 17) (v := ?vb1_17) rfl rfl (by kernel_rfl) (by kernel_rfl) (by kernel_rfl) (fun _ _ _ h => h) (by rfl) ?yb1_17 (by assumption) ?rb1_17
                  case yb1_17 => (intro w hSw; (try dsimp only at hSw); go_simp; try (with_reducible rfl))
                  try simp only [Act.put, List.setIfInBounds_toArray, List.set_cons_zero, List.set_cons_succ]
                  refine wpAnyH_takeD (i := 18) (v := ?vb1_18) rfl rfl (by kernel_rfl) (by kernel_rfl) (by kernel_rfl) (fun _ _ _ h => h) (by rfl) ?yb1_18 (by assumption) ?rb1_18
                  case yb1_18 => (intro w hSw; (try dsimp only at hSw); go_simp; try (with_reducible rfl))
                  try simp only [Act.put, List.setIfInBounds_toArray, List.set_cons_zero, List.set_cons_succ]
                  refine wpAnyH_takeD (i := 19) (v := ?vb1_19) rfl rfl (by kernel_rfl) (by kernel_rfl) (by kernel_rfl) (fun _ _ _ h => h) (by rfl) ?yb1_19 (by assumption) ?rb1_19
                  case yb1_19 => (intro w hSw; (try dsimp only at hSw); go_simp; try (with_reducible rfl))
                  try simp only [Act.put, List.setIfInBounds_toArray, List.set_cons_zero, List.set_cons_succ]
                  refine wpAnyH_callD (i := 20) rfl rfl (by kernel_rfl) (by rfl) 62 _ _ (HSt.out _) (by go_simp) ?_
                  rintro e w6 ⟨rfl, hb⟩
                  have H6 := Lib.hid (H3.out.drew1.step hb)
                  clear hb
                  refine ⟨_, rfl, HC.out _ H6.out, ?_⟩
                  have hHeld := HC.out _ H6.out
                  try simp only [Act.put, List.setIfInBounds_toArray, List.set_cons_zero, List.set_cons_succ]
                  refine wpAnyH_takeD (i := 21) (v := ?vb1_21) rfl rfl (by kernel_rfl) (by kernel_rfl) (by kernel_rfl) (fun _ _ _ h => h) (by rfl) ?yb1_21 (by assumption) ?rb1_21
                  case yb1_21 => (intro w hSw; (try dsimp only at hSw); go_simp; try (with_reducible rfl))
                  try simp only [Act.put, List.setIfInBounds_toArray, List.set_cons_zero, List.set_cons_succ]
                  refine wpAnyH_takeD (i := 22) (v := ?vb1_22) rfl rfl (by kernel_rfl) (by kernel_rfl) (by kernel_rfl) (fun _ _ _ h => h) (by rfl) ?yb1_22 (by assumption) ?rb1_22
                  case yb1_22 => (intro w hSw; (try dsimp only at hSw); go_simp; try (with_reducible rfl))
                  try simp only [Act.put, List.setIfInBounds_toArray, List.set_cons_zero, List.set_cons_succ]
                  refine wpAnyH_takeD (i := 23) (v := ?vb1_23) rfl rfl (by kernel_rfl) (by kernel_rfl) (by kernel_rfl) (fun _ _ _ h => h) (by rfl) ?yb1_23 (by assumption) ?rb1_23
                  case yb1_23 => (intro w hSw; (try dsimp only at hSw); go_simp; try (with_reducible rfl))
                  try simp only [Act.put, List.setIfInBounds_toArray, List.set_cons_zero, List.set_cons_succ]
                  refine wpAnyH_offD (i := 24) rfl rfl (by kernel_rfl) (by kernel_rfl) (by kernel_rfl) (fun _ _ _ h => h) (by rfl) (by assumption) ?_
                  try simp only [Act.put, List.setIfInBounds_toArray, List.set_cons_zero, List.set_cons_succ]
                  refine wpAnyH_offD (i := 25) rfl rfl (by kernel_rfl) (by kernel_rfl) (by kernel_rfl) (fun _ _ _ h => h) (by rfl) (by assumption) ?_
                  try simp only [Act.put, List.setIfInBounds_toArray, List.set_cons_zero, List.set_cons_succ]
                  refine wpAnyH_offD (i := 26) rfl rfl (by kernel_rfl) (by kernel_rfl) (by kernel_rfl) (fun _ _ _ h => h) (by rfl) (by assumption) ?_
                  try simp only [Act.put, List.setIfInBounds_toArray, List.set_cons_zero, List.set_cons_succ]
                  refine wpAnyH_offD (i := 27) rfl rfl (by kernel_rfl) (by kernel_rfl) (by kernel_rfl) (fun _ _ _ h => h) (by rfl) (by assumption) ?_
                  try simp only [Act.put, List.setIfInBounds_toArray, List.set_cons_zero, List.set_cons_succ]
                  refine wpAnyH_offD (i := 28) rfl rfl (by kernel_rfl) (by kernel_rfl) (by kernel_rfl) (fun _ _ _ h => h) (by rfl) (by assumption) ?_
                  try simp only [Act.put, List.setIfInBounds_toArray, List.set_cons_zero, List.set_cons_succ]
                  refine wpAnyH_takeD (i := 29) (v := ?vb1_29) rfl rfl (by kernel_rfl) (by kernel_rfl) (by kernel_rfl) (fun _ _ _ h => h) (by rfl) ?yb1_29 (by assumption) ?rb1_29
                  case yb1_29 => (intro w hSw; (try dsimp only at hSw); go_simp; try (with_reducible rfl))
                  try simp only [Act.put, List.setIfInBounds_toArray, List.set_cons_zero, List.set_cons_succ]
                  refine wpAnyH_done (by kernel_rfl) ?_ _
                  all_goals
                    go_wp2_with fail
                    go_ret
                    exact ⟨ret_int (by rw [Hv2.out, Hok.out]; simp), H6.out.bel⟩
                | true =>
                  go_upto_region 5 with fail
                  go_region_held3 (fun w' => ∀ i, w'.cell? ⟨w.heap.size, i, none⟩ = (#[.int .u8 xk, .int .u8 xs, .string xt, .string xn, .string xv, .int .i64 xa, .int .i64 xb, .slice apo xo.length aco, .slice apc xc.length acc, .slice apr xr.length acr, .slice apf xf.length acf] : Array Value)[i]?)
                    (first | exact hc3 | exact HC.out _ H6.out | exact HC.out _ H7.out | exact HC.out _ H8.out | go_keep)
                    (first
                      | (go_at_call 61; (with_reducible refine (HI1.out _).mono ?_); rintro e wz ⟨rfl, rfl⟩)
                      | (go_at_call 61; (with_reducible refine (HI2.out _).mono ?_); rintro e wz ⟨rfl, rfl⟩)
                      | (go_at_call 62; refine (HSt.out _).mono ?_; rintro e w6 ⟨rfl, hb⟩; have H6 := Lib.hid (H3.out.drew1.step hb); clear hb)
                      | (go_at_call 63; refine (HOf.out _ H6.out).mono ?_; rintro e w7 ⟨a', rfl, hk, hb⟩; have H7 := Lib.hid (H6.out.step hb); have HSm2 := Lib.hid (HSm.out a' w7 H7.out hk.any); clear hb hk)
                      | (go_at_call 21; refine HSm2.out.mono ?_; rintro e w8 ⟨rfl, hb⟩; have H8 := Lib.hid (H7.out.step hb); clear hb))
                  clear hc3
                  cases sv with
                  | true =>
                    go_wp2_with fail
                    go_ret
                    exact ⟨ret_int (by rw [Hv2.out, Hok.out]; rfl), H8.out.bel⟩
                  | false =>
                    go_wp2_with fail
                    go_ret
                    exact ⟨ret_int (by rw [Hv2.out, Hok.out]; rfl), H8.out.bel⟩

end Go.Proofs.YthhebfknikfleaaGreat

