/-
  Messages of servers (layer 7): which may be: the program's.
-/
import Derived.Test.YthhebfknikfleaaGreatBaA
import Derived.Test.YthhebfknikfleaaGreatPackB
import Derived.Test.YthhebfknikfleaaGreatIdxBo
import Derived.Test.YthhebfknikfleaaGreatIdxCo1
import Derived.Test.YthhebfknikfleaaGreatIdxFd1
import Derived.Test.YthhebfknikfleaaGreatIdxCe1
import Derived.Test.YthhebfknikfleaaGreatIdxIn1
namespace Go.Proofs.YthhebfknikfleaaGreat
open Go.RowKit
set_option linter.unusedVariables false
set_option linter.unusedSimpArgs false

theorem servK_1 : ∀ k : Fin 256, decide (0 ≤ Lib.indexByte [82, 83, 75, 90, 49, 50, 51, 110, 115, 73, 67, 68, 84, 116, 69, 78] (UInt8.ofNat k.val)) = servK (k.val : Int) := by decide +kernel

set_option maxRecDepth 100000 in
theorem bknown_any (k : Int) (h0 : 0 ≤ k) (h1 : k < 256) (w : World) : Calls Tryz.prog 52 #[.int .u8 k] w fun e w' => e = .returned (.bool (servK k)) ∧ Below w.heap.size w w' := by
  obtain ⟨n, rfl⟩ := Int.eq_ofNat_of_zero_le h0
  have hn : n < 256 := by omega
  have Hi1 := Lib.hid (servK_1 ⟨n, hn⟩)
  dsimp only at Hi1
  have HA := Lib.hid ((Below.refl w.heap.size w).alloc (Nat.le_refl _) (.cells #[.int .u8 82, .int .u8 83, .int .u8 75, .int .u8 90, .int .u8 49, .int .u8 50, .int .u8 51, .int .u8 110, .int .u8 115, .int .u8 73, .int .u8 67, .int .u8 68, .int .u8 84, .int .u8 116, .int .u8 69, .int .u8 78] 5 (16, 17)))
  have Hb1 := Lib.hid (BytesIn.newK w [82, 83, 75, 90, 49, 50, 51, 110, 115, 73, 67, 68, 84, 116, 69, 78] #[.int .u8 82, .int .u8 83, .int .u8 75, .int .u8 90, .int .u8 49, .int .u8 50, .int .u8 51, .int .u8 110, .int .u8 115, .int .u8 73, .int .u8 67, .int .u8 68, .int .u8 84, .int .u8 116, .int .u8 69, .int .u8 78] 5 (16, 17) rfl)
  have Hc1 := Lib.hid (bytesIndexByte (some ⟨w.heap.size, 0, none⟩) [82, 83, 75, 90, 49, 50, 51, 110, 115, 73, 67, 68, 84, 116, 69, 78] 16 (n : Int) _ Hb1.out)
  have hu : ((n : Int).toNat.toUInt8) = UInt8.ofNat n := rfl
  rw [hu] at Hc1
  have hl1 : ([82, 83, 75, 90, 49, 50, 51, 110, 115, 73, 67, 68, 84, 116, 69, 78] : List UInt8).length = 16 := rfl
  rw [hl1] at Hc1
  generalize Lib.indexByte [82, 83, 75, 90, 49, 50, 51, 110, 115, 73, 67, 68, 84, 116, 69, 78] (UInt8.ofNat n) = i1 at *
  obtain ⟨kv, hkv⟩ : ∃ kv, servK (n : Int) = kv := ⟨_, rfl⟩
  rw [hkv] at Hi1 ⊢
  clear hkv hu hl1
  have kc := fun (w : World) (C : Array Value) (n c : Nat) => Lib.run_convert_bytes_const (P := Tryz.prog) w 25 5 C n c Tryz.underlying25 Tryz.underlying5
  go_enter Tryz.func52, Tryz.ntmps52
  go_wp2_with fail
  generalize w.alloc (.cells #[.int .u8 82, .int .u8 83, .int .u8 75, .int .u8 90, .int .u8 49, .int .u8 50, .int .u8 51, .int .u8 110, .int .u8 115, .int .u8 73, .int .u8 67, .int .u8 68, .int .u8 84, .int .u8 116, .int .u8 69, .int .u8 78] 5 (16, 17)) = w1 at *
  refine Hc1.out.mono ?_
  rintro e w2 ⟨rfl, rfl⟩
  go_wp2_with fail
  go_ret
  exact ⟨ret_bool (by have := Hi1.out; simpa using this), HA.out⟩

theorem bound_any (x : BoV) (w : World) : Calls Tryz.prog 136 #[.agg #[.int .i64 x.n, .int .i64 x.lo, .int .i64 x.hi]] w fun e w' => e = .returned (.bool (outside x.lo x.hi x.n)) ∧ Below w.heap.size w w' := by
  obtain ⟨n, lo, hi⟩ := x
  dsimp only
  have HB := Lib.hid ((Below.refl w.heap.size w).alloc (Nat.le_refl _) (.cells #[.int .i64 n, .int .i64 lo, .int .i64 hi] 149))
  have Ho : Hid (outside lo hi n = (decide (n < lo) || decide (hi < n))) := Lib.hid rfl
  generalize outside lo hi n = r at *
  go_enter Tryz.func136, Tryz.ntmps136
  go_wp2
  all_goals
    go_ret
    refine ⟨ret_bool ?_, HB.out⟩
    rw [Ho.out]
    first | done | simp_all

def outB (x : BoV) : Bool := outside x.lo x.hi x.n
theorem ball_any (S : Nat → Prop) (p : Option Addr) (n c : Nat) (L : List BoV) (w : World) (h : SliceS 3 BoS S w [.slice p n c] L) :
    Calls Tryz.prog 104 #[.slice p n c] w fun e w' => e = .returned (.bool (!L.any outB)) ∧ Below w.heap.size w w' := by
  have Hc := Lib.hid (containsBo 136 outB S p n c L w h (enter_of Tryz.func136 (by kernel_rfl) rfl) (fun x w0 _ => bound_any x w0))
  generalize L.any outB = d at *
  clear h
  go_enter Tryz.func104, Tryz.ntmps104
  go_wp2_with fail
  refine Hc.out.mono ?_
  rintro e w1 ⟨rfl, hb⟩
  have Hb := Lib.hid hb
  clear hb
  go_wp2
  go_ret
  exact ⟨rfl, Hb.out⟩

theorem slice6 (w : World) (e : TypeId) (a b c d f g : BoV) : SliceS 3 BoS (fun _ => True) (w.alloc (.cells #[.int .i64 a.n, .int .i64 a.lo, .int .i64 a.hi, .int .i64 b.n, .int .i64 b.lo, .int .i64 b.hi, .int .i64 c.n, .int .i64 c.lo, .int .i64 c.hi, .int .i64 d.n, .int .i64 d.lo, .int .i64 d.hi, .int .i64 f.n, .int .i64 f.lo, .int .i64 f.hi, .int .i64 g.n, .int .i64 g.lo, .int .i64 g.hi] e)) [.slice (some ⟨w.heap.size, 0, none⟩) 6 6] [a, b, c, d, f, g] := by
  refine ⟨_, _, [[.int .i64 a.n, .int .i64 a.lo, .int .i64 a.hi], [.int .i64 b.n, .int .i64 b.lo, .int .i64 b.hi], [.int .i64 c.n, .int .i64 c.lo, .int .i64 c.hi], [.int .i64 d.n, .int .i64 d.lo, .int .i64 d.hi], [.int .i64 f.n, .int .i64 f.lo, .int .i64 f.hi], [.int .i64 g.n, .int .i64 g.lo, .int .i64 g.hi]], rfl, Nat.le_refl _, by simp [maxLen], fun j u hu => ⟨_, _, rfl, trivial, ?_⟩, ?_⟩
  · rw [Nat.zero_add, World.cell?_alloc_new]
    simpa using hu
  · exact ⟨⟨rfl, rfl⟩, ⟨rfl, rfl⟩, ⟨rfl, rfl⟩, ⟨rfl, rfl⟩, ⟨rfl, rfl⟩, ⟨rfl, rfl⟩, trivial⟩

set_option maxRecDepth 100000 in
set_option maxHeartbeats 4000000 in
theorem column_any (x : CoV) (w : World) : Calls Tryz.prog 55 #[.agg #[.string x.name, .int .i64 x.table, .int .i64 x.attr, .int .i64 x.oid, .int .i64 x.size, .int .i64 x.mod, .int .i64 x.format]] w fun e w' => e = .returned (.bool (colB x)) ∧ Below w.heap.size w w' := by
  have Hv : Hid (colB x = (cleanB x.name && (!([⟨x.table, 0, 4294967295⟩, ⟨x.attr, 0, 65535⟩, ⟨x.oid, 0, 4294967295⟩, ⟨x.size, -32768, 32767⟩, ⟨x.mod, -2147483648, 2147483647⟩, ⟨x.format, 0, 65535⟩] : List BoV).any outB))) := Lib.hid (by
    unfold colB colNums inR
    simp [outB])
  have HC := Lib.hid (fun w0 : World => clean_any x.name w0)
  have Hs := Lib.hid (fun w0 : World => slice6 w0 149 ⟨x.table, 0, 4294967295⟩ ⟨x.attr, 0, 65535⟩ ⟨x.oid, 0, 4294967295⟩ ⟨x.size, -32768, 32767⟩ ⟨x.mod, -2147483648, 2147483647⟩ ⟨x.format, 0, 65535⟩)
  obtain ⟨L, hL⟩ : ∃ L : List BoV, L = [⟨x.table, 0, 4294967295⟩, ⟨x.attr, 0, 65535⟩, ⟨x.oid, 0, 4294967295⟩, ⟨x.size, -32768, 32767⟩, ⟨x.mod, -2147483648, 2147483647⟩, ⟨x.format, 0, 65535⟩] := ⟨_, rfl⟩
  rw [← hL] at Hv Hs
  clear hL
  obtain ⟨xn, xt, xa, xo, xs, xm, xf⟩ := x
  dsimp only at *
  have HA := Lib.hid (fun w0 : World => ball_any _ _ _ _ L _ (Hs.out w0))
  generalize L.any outB = av at *
  generalize cleanB xn = cv at *
  generalize colB _ = rv at *
  have HB0 := Lib.hid ((Below.refl w.heap.size w).alloc (Nat.le_refl _) (.cells #[.string xn, .int .i64 xt, .int .i64 xa, .int .i64 xo, .int .i64 xs, .int .i64 xm, .int .i64 xf] 79))
  have HK0 := Lib.hid (Blk.new w 79 #[.string xn, .int .i64 xt, .int .i64 xa, .int .i64 xo, .int .i64 xs, .int .i64 xm, .int .i64 xf])
  go_enter Tryz.func55, Tryz.ntmps55
  go_upto_region 1 with fail
  have hcx := HK0.out.cell
  generalize w.alloc (.cells #[.string xn, .int .i64 xt, .int .i64 xa, .int .i64 xo, .int .i64 xs, .int .i64 xm, .int .i64 xf] 79) = w1 at *
  go_wp2_with fail
  refine (HC.out _).mono ?_
  rintro e w2 ⟨rfl, rfl⟩
  cases cv with
  | false =>
    go_wp2_with fail
    go_ret
    exact ⟨ret_bool (by rw [Hv.out]; rfl), HB0.out⟩
  | true =>
    go_wp2_with fail
    (with_reducible refine (HA.out _).mono ?_)
    rintro e w3 ⟨rfl, hb⟩
    have HB3 := Lib.hid ((HB0.out.alloc HB0.out.size _).trans (hb.mono (Nat.le_trans HB0.out.size (by simp))))
    clear hb
    go_wp2_with fail
    go_ret
    exact ⟨ret_bool (by rw [Hv.out]; rfl), HB3.out⟩

theorem field_any (x : FdV) (w : World) : Calls Tryz.prog 57 #[.agg #[.int .u8 x.code, .string x.text]] w fun e w' => e = .returned (.bool (fieldB x)) ∧ Below w.heap.size w w' := by
  have HB := Lib.hid ((Below.refl w.heap.size w).alloc (Nat.le_refl _) (.cells #[.int .u8 x.code, .string x.text] 87))
  have Hv : Hid (fieldB x = ((!(x.code == 0)) && cleanB x.text)) := Lib.hid rfl
  have HC := Lib.hid (fun w0 : World => clean_any x.text w0)
  generalize fieldB x = r at *
  generalize cleanB x.text = cv at *
  obtain ⟨xc, xt⟩ := x
  dsimp only at *
  by_cases h0 : xc = 0
  · subst h0
    go_enter Tryz.func57, Tryz.ntmps57
    go_wp2_with fail
    go_ret
    exact ⟨ret_bool (by rw [Hv.out]; rfl), HB.out⟩
  · have h0b : (xc == 0) = false := by simpa using h0
    rw [h0b] at Hv
    go_enter Tryz.func57, Tryz.ntmps57
    go_wp2_with fail
    refine (HC.out _).mono ?_
    rintro e w2 ⟨rfl, rfl⟩
    go_wp2_with fail
    go_ret
    exact ⟨ret_bool (by rw [Hv.out]; simp [h0]), HB.out⟩

theorem bcell_any (x : CeV) (q : Option Addr) (d : Nat) (w : World) : Calls Tryz.prog 59 #[.agg #[.bool x.null, .slice q x.bytes.length d]] w fun e w' => e = .returned (.bool (!wrongC x)) ∧ Below w.heap.size w w' := by
  have Hb := Lib.hid ((Below.refl w.heap.size w).alloc (Nat.le_refl _) (.cells #[.bool x.null, .slice q x.bytes.length d] 83))
  have Hv : Hid (wrongC x = ((x.null && decide ((0 : Int) < (x.bytes.length : Int))) || decide ((1048576 : Int) < (x.bytes.length : Int)))) := Lib.hid (by
    unfold wrongC
    have h1 : decide (0 < x.bytes.length) = decide ((0 : Int) < (x.bytes.length : Int)) := decide_eq_decide.2 (by omega)
    have h2 : decide (1048576 < x.bytes.length) = decide ((1048576 : Int) < (x.bytes.length : Int)) := decide_eq_decide.2 (by omega)
    rw [h1, h2])
  generalize wrongC x = v at *
  obtain ⟨xn, xb⟩ := x
  dsimp only at *
  generalize xb.length = m at *
  have hf : ∀ k : Int, (!decide ((1048576 : Int) < k)) = decide (k ≤ 1048576) := fun k => by by_cases h : k ≤ 1048576 <;> simp [h] <;> omega
  have Hf := Lib.hid hf
  clear hf
  cases xn with
  | false =>
    go_enter Tryz.func59, Tryz.ntmps59
    go_wp2
    go_ret
    exact ⟨ret_bool (by rw [Hv.out, Bool.false_and, Bool.false_or, Hf.out]), Hb.out⟩
  | true =>
    cases m with
    | zero =>
      go_enter Tryz.func59, Tryz.ntmps59
      go_wp2
      go_ret
      exact ⟨ret_bool (by rw [Hv.out]; rfl), Hb.out⟩
    | succ m =>
      have h0 : (0 : Int) < ((m + 1 : Nat) : Int) := by omega
      rw [decide_eq_true h0] at Hv
      obtain ⟨k, hk⟩ : ∃ k : Int, ((m + 1 : Nat) : Int) = k := ⟨_, rfl⟩
      rw [hk] at h0
      have Hk := Lib.hid hk
      go_enter Tryz.func59, Tryz.ntmps59
      clear hk
      go_wp2
      all_goals
        go_ret
        exact ⟨ret_bool (by rw [Hv.out]; simp), Hb.out⟩

theorem inR_ge (n lo hi : Int) : inR n lo hi = (decide (lo ≤ n) && decide (n ≤ hi)) := by
  unfold inR outside
  by_cases h1 : lo ≤ n <;> by_cases h2 : n ≤ hi
  · rw [decide_eq_true h1, decide_eq_true h2, decide_eq_false (by omega), decide_eq_false (by omega)]; rfl
  · rw [decide_eq_true h1, decide_eq_false h2, decide_eq_false (by omega), decide_eq_true (by omega)]; rfl
  · rw [decide_eq_false h1, decide_eq_true h2, decide_eq_true (by omega)]; rfl
  · rw [decide_eq_false h1, decide_eq_false h2, decide_eq_true (by omega)]; rfl
theorem oid_any (n : Int) (w : World) : Calls Tryz.prog 61 #[.int .i64 n] w fun e w' => e = .returned (.bool (inR n 0 4294967295)) ∧ w = w' := by
  have Ho := Lib.hid (inR_ge n 0 4294967295)
  generalize inR n 0 4294967295 = r at *
  by_cases h1 : 0 ≤ n
  · rw [decide_eq_true h1] at Ho
    go_enter Tryz.func61, Tryz.ntmps61
    go_wp2
    all_goals
      go_ret
      exact ⟨ret_bool (by rw [Ho.out]; simp_all), by first | rfl | trivial⟩
  · rw [decide_eq_false h1] at Ho
    go_enter Tryz.func61, Tryz.ntmps61
    go_wp2
    all_goals
      go_ret
      exact ⟨ret_bool (by rw [Ho.out]; simp_all), by first | rfl | trivial⟩

theorem status_any (x : BaV) (a : BaP) (w : World) : Calls Tryz.prog 62 #[baArg x a] w fun e w' => e = .returned (.bool (statusB x)) ∧ Below w.heap.size w w' := by
  have HB := Lib.hid (fun cs : Array Value => (Below.refl w.heap.size w).alloc (Nat.le_refl _) (.cells cs 39))
  have Hv : Hid (statusB x = ((!(x.kind == 90)) || ((x.status == 73) || ((x.status == 84) || (x.status == 69))))) := Lib.hid rfl
  generalize statusB x = v at *
  obtain ⟨xk, xs, xt, xn, xv, xa, xb, xo, xc, xr, xf⟩ := x
  obtain ⟨apo, aco, apc, acc, apr, acr, apf, acf⟩ := a
  unfold baArg
  unfold baCells
  dsimp only at *
  go_enter Tryz.func62, Tryz.ntmps62
  go_wp2_with fail
  all_goals
    go_ret
    refine ⟨ret_bool ?_, HB.out _⟩
    rw [Hv.out]
    simp_all [Bool.or_assoc]

theorem everyCo1_any (K : FuncId) (P : CoV → Bool) (g : Nat) (x : CoV) (w : World) (hg : w.cell? ⟨g, 0, none⟩ = some (.func (.func K) #[] #[])) (hlt : g < w.heap.size)
    (hE : ∀ (args : Array Value) (w0 : World), (callFunc K args).run Tryz.prog w0 = .ok (.enter K args) w0) (hK : ∀ (w0 : World), Below w.heap.size w w0 → Calls Tryz.prog K #[.agg #[.string x.name, .int .i64 x.table, .int .i64 x.attr, .int .i64 x.oid, .int .i64 x.size, .int .i64 x.mod, .int .i64 x.format]] w0 fun e w' => e = .returned (.bool (P x)) ∧ Below w0.heap.size w0 w') :
    Calls Tryz.prog 103 #[.agg #[.string x.name, .int .i64 x.table, .int .i64 x.attr, .int .i64 x.oid, .int .i64 x.size, .int .i64 x.mod, .int .i64 x.format], .pointer (some ⟨g, 0, none⟩)] w fun e w' => e = .returned (.bool (!P x)) ∧ Below w.heap.size w w' := by
  have HB0 := Lib.hid ((Below.refl w.heap.size w).alloc (Nat.le_refl _) (.cells #[.string x.name, .int .i64 x.table, .int .i64 x.attr, .int .i64 x.oid, .int .i64 x.size, .int .i64 x.mod, .int .i64 x.format] 79))
  have hg1 : (w.alloc (.cells #[.string x.name, .int .i64 x.table, .int .i64 x.attr, .int .i64 x.oid, .int .i64 x.size, .int .i64 x.mod, .int .i64 x.format] 79)).cell? ⟨g, 0, none⟩ = some (.func (.func K) #[] #[]) := (HB0.out.cell (p := ⟨g, 0, none⟩) hlt).trans hg
  have HK := Lib.hid (hK _ HB0.out)
  generalize P x = r at *
  obtain ⟨xn, xt, xa, xo, xs, xm, xf⟩ := x
  dsimp only at *
  clear hK
  go_enter Tryz.func103, Tryz.ntmps103
  go_wp2_with fail
  refine HK.out.mono ?_
  rintro e w2 ⟨rfl, hb⟩
  have HB2 := Lib.hid (HB0.out.trans (hb.mono HB0.out.size))
  clear hb
  go_wp2_with fail
  go_ret
  exact ⟨rfl, HB2.out⟩

theorem everyCo_any (K : FuncId) (P : CoV → Bool) (S : Nat → Prop) (p : Option Addr) (n c : Nat) (l : List CoV) (w : World) (h : SliceS 7 CoS S w [.slice p n c] l)
    (hE : ∀ (args : Array Value) (w0 : World), (callFunc K args).run Tryz.prog w0 = .ok (.enter K args) w0) (hK : ∀ (x : CoV) (w0 : World), Calls Tryz.prog K #[.agg #[.string x.name, .int .i64 x.table, .int .i64 x.attr, .int .i64 x.oid, .int .i64 x.size, .int .i64 x.mod, .int .i64 x.format]] w0 fun e w' => e = .returned (.bool (P x)) ∧ Below w0.heap.size w0 w') :
    Calls Tryz.prog 54 #[.slice p n c, .func (.func K) #[] #[]] w fun e w' => e = .returned (.bool (decide (l.length ≤ 65535) && !l.any (fun c => !P c))) ∧ Below w.heap.size w w' := by
  obtain ⟨rfl, hlc, hcm⟩ := h.len
  unfold maxLen at hcm
  have hmf : ∀ (fn : Fn) (first cap : Array Value) (w : World), (Instr.makeFunc fn first cap).run Tryz.prog w = .ok (.func fn first cap) w := fun _ _ _ _ => rfl
  have hbel : Below w.heap.size w (w.alloc (.cells #[.func (.func K) #[] #[]] 80)) := (Below.refl _ _).alloc (Nat.le_refl _) _
  have hb1 : Blk (w.alloc (.cells #[.func (.func K) #[] #[]] 80)) w.heap.size 80 #[.func (.func K) #[] #[]] := Blk.new _ _ _
  have Hb := Lib.hid (And.intro hb1 hbel)
  have H1 := Lib.hid (h.below CoS.still hbel)
  have hl1 := hb1.lt
  obtain ⟨bv, hbv⟩ : ∃ bv, bv = (decide (l.length ≤ 65535) && !l.any (fun c => !P c)) := ⟨_, rfl⟩
  have Hv : Hid (bv = (decide ((l.length : Int) ≤ 65535) && !l.any (fun c => !P c))) := Lib.hid (by rw [hbv]; congr 1; simp only [decide_eq_decide]; omega)
  rw [← hbv]
  clear h hb1 hbel hbv
  go_enter Tryz.func54, Tryz.ntmps54
  go_upto_region 1 with (fail)
  generalize w.alloc (.cells #[.func (.func K) #[] #[]] 80) = w1 at *
  have Hc := Lib.hid (containsCo1 103 (.pointer (some ⟨w.heap.size, 0, none⟩)) (fun c => !P c) S p _ c l w1 H1.out (enter_of Tryz.func103 (by kernel_rfl) rfl)
    (fun x  w0 hb _ => everyCo1_any K P w.heap.size x  w0 ((Hb.out.1.below hb hl1).cell 0) (by have := hb.size; omega) hE (fun w0 _ => hK x  w0)))
  generalize l.any (fun c => !P c) = av at *
  have HE := Lib.hid hE
  have HK := Lib.hid hK
  clear hE hK
  by_cases hlen : (l.length : Int) ≤ 65535
  · rw [decide_eq_true hlen] at Hv
    go_wp2_with fail
    refine Hc.out.mono ?_
    rintro e w2 ⟨rfl, hb⟩
    have HB := Lib.hid (Hb.out.2.trans (hb.mono Hb.out.2.size))
    clear hb
    go_wp2_with fail
    go_ret
    exact ⟨ret_bool (by rw [Hv.out]; rfl), HB.out⟩
  · rw [decide_eq_false hlen] at Hv
    go_wp2_with fail
    go_ret
    exact ⟨ret_bool (by rw [Hv.out]; rfl), Hb.out.2⟩

theorem everyFd1_any (K : FuncId) (P : FdV → Bool) (g : Nat) (x : FdV) (w : World) (hg : w.cell? ⟨g, 0, none⟩ = some (.func (.func K) #[] #[])) (hlt : g < w.heap.size)
    (hE : ∀ (args : Array Value) (w0 : World), (callFunc K args).run Tryz.prog w0 = .ok (.enter K args) w0) (hK : ∀ (w0 : World), Below w.heap.size w w0 → Calls Tryz.prog K #[.agg #[.int .u8 x.code, .string x.text]] w0 fun e w' => e = .returned (.bool (P x)) ∧ Below w0.heap.size w0 w') :
    Calls Tryz.prog 105 #[.agg #[.int .u8 x.code, .string x.text], .pointer (some ⟨g, 0, none⟩)] w fun e w' => e = .returned (.bool (!P x)) ∧ Below w.heap.size w w' := by
  have HB0 := Lib.hid ((Below.refl w.heap.size w).alloc (Nat.le_refl _) (.cells #[.int .u8 x.code, .string x.text] 87))
  have hg1 : (w.alloc (.cells #[.int .u8 x.code, .string x.text] 87)).cell? ⟨g, 0, none⟩ = some (.func (.func K) #[] #[]) := (HB0.out.cell (p := ⟨g, 0, none⟩) hlt).trans hg
  have HK := Lib.hid (hK _ HB0.out)
  generalize P x = r at *
  obtain ⟨xc, xt⟩ := x
  dsimp only at *
  clear hK
  go_enter Tryz.func105, Tryz.ntmps105
  go_wp2_with fail
  refine HK.out.mono ?_
  rintro e w2 ⟨rfl, hb⟩
  have HB2 := Lib.hid (HB0.out.trans (hb.mono HB0.out.size))
  clear hb
  go_wp2_with fail
  go_ret
  exact ⟨rfl, HB2.out⟩

theorem everyFd_any (K : FuncId) (P : FdV → Bool) (S : Nat → Prop) (p : Option Addr) (n c : Nat) (l : List FdV) (w : World) (h : SliceS 2 FdS S w [.slice p n c] l)
    (hE : ∀ (args : Array Value) (w0 : World), (callFunc K args).run Tryz.prog w0 = .ok (.enter K args) w0) (hK : ∀ (x : FdV) (w0 : World), Calls Tryz.prog K #[.agg #[.int .u8 x.code, .string x.text]] w0 fun e w' => e = .returned (.bool (P x)) ∧ Below w0.heap.size w0 w') :
    Calls Tryz.prog 56 #[.slice p n c, .func (.func K) #[] #[]] w fun e w' => e = .returned (.bool (decide (l.length ≤ 65535) && !l.any (fun c => !P c))) ∧ Below w.heap.size w w' := by
  obtain ⟨rfl, hlc, hcm⟩ := h.len
  unfold maxLen at hcm
  have hmf : ∀ (fn : Fn) (first cap : Array Value) (w : World), (Instr.makeFunc fn first cap).run Tryz.prog w = .ok (.func fn first cap) w := fun _ _ _ _ => rfl
  have hbel : Below w.heap.size w (w.alloc (.cells #[.func (.func K) #[] #[]] 88)) := (Below.refl _ _).alloc (Nat.le_refl _) _
  have hb1 : Blk (w.alloc (.cells #[.func (.func K) #[] #[]] 88)) w.heap.size 88 #[.func (.func K) #[] #[]] := Blk.new _ _ _
  have Hb := Lib.hid (And.intro hb1 hbel)
  have H1 := Lib.hid (h.below FdS.still hbel)
  have hl1 := hb1.lt
  obtain ⟨bv, hbv⟩ : ∃ bv, bv = (decide (l.length ≤ 65535) && !l.any (fun c => !P c)) := ⟨_, rfl⟩
  have Hv : Hid (bv = (decide ((l.length : Int) ≤ 65535) && !l.any (fun c => !P c))) := Lib.hid (by rw [hbv]; congr 1; simp only [decide_eq_decide]; omega)
  rw [← hbv]
  clear h hb1 hbel hbv
  go_enter Tryz.func56, Tryz.ntmps56
  go_upto_region 1 with (fail)
  generalize w.alloc (.cells #[.func (.func K) #[] #[]] 88) = w1 at *
  have Hc := Lib.hid (containsFd1 105 (.pointer (some ⟨w.heap.size, 0, none⟩)) (fun c => !P c) S p _ c l w1 H1.out (enter_of Tryz.func105 (by kernel_rfl) rfl)
    (fun x  w0 hb _ _ _ => everyFd1_any K P w.heap.size x  w0 ((Hb.out.1.below hb hl1).cell 0) (by have := hb.size; omega) hE (fun w0 _ => hK x  w0)))
  generalize l.any (fun c => !P c) = av at *
  have HE := Lib.hid hE
  have HK := Lib.hid hK
  clear hE hK
  by_cases hlen : (l.length : Int) ≤ 65535
  · rw [decide_eq_true hlen] at Hv
    go_wp2_with fail
    refine Hc.out.mono ?_
    rintro e w2 ⟨rfl, hb⟩
    have HB := Lib.hid (Hb.out.2.trans (hb.mono Hb.out.2.size))
    clear hb
    go_wp2_with fail
    go_ret
    exact ⟨ret_bool (by rw [Hv.out]; rfl), HB.out⟩
  · rw [decide_eq_false hlen] at Hv
    go_wp2_with fail
    go_ret
    exact ⟨ret_bool (by rw [Hv.out]; rfl), Hb.out.2⟩

theorem everyCe1_any (K : FuncId) (P : CeV → Bool) (g : Nat) (x : CeV) (q : Option Addr) (d : Nat) (w : World) (hg : w.cell? ⟨g, 0, none⟩ = some (.func (.func K) #[] #[])) (hlt : g < w.heap.size)
    (hE : ∀ (args : Array Value) (w0 : World), (callFunc K args).run Tryz.prog w0 = .ok (.enter K args) w0) (hK : ∀ (w0 : World), Below w.heap.size w w0 → Calls Tryz.prog K #[.agg #[.bool x.null, .slice q x.bytes.length d]] w0 fun e w' => e = .returned (.bool (P x)) ∧ Below w0.heap.size w0 w') :
    Calls Tryz.prog 106 #[.agg #[.bool x.null, .slice q x.bytes.length d], .pointer (some ⟨g, 0, none⟩)] w fun e w' => e = .returned (.bool (!P x)) ∧ Below w.heap.size w w' := by
  have HB0 := Lib.hid ((Below.refl w.heap.size w).alloc (Nat.le_refl _) (.cells #[.bool x.null, .slice q x.bytes.length d] 83))
  have hg1 : (w.alloc (.cells #[.bool x.null, .slice q x.bytes.length d] 83)).cell? ⟨g, 0, none⟩ = some (.func (.func K) #[] #[]) := (HB0.out.cell (p := ⟨g, 0, none⟩) hlt).trans hg
  have HK := Lib.hid (hK _ HB0.out)
  generalize P x = r at *
  obtain ⟨xn, xb⟩ := x
  dsimp only at *
  generalize xb.length = m at *
  clear hK
  go_enter Tryz.func106, Tryz.ntmps106
  go_wp2_with fail
  refine HK.out.mono ?_
  rintro e w2 ⟨rfl, hb⟩
  have HB2 := Lib.hid (HB0.out.trans (hb.mono HB0.out.size))
  clear hb
  go_wp2_with fail
  go_ret
  exact ⟨rfl, HB2.out⟩

theorem everyCe_any (K : FuncId) (P : CeV → Bool) (S : Nat → Prop) (p : Option Addr) (n c : Nat) (l : List CeV) (w : World) (h : SliceS 2 CeS S w [.slice p n c] l)
    (hE : ∀ (args : Array Value) (w0 : World), (callFunc K args).run Tryz.prog w0 = .ok (.enter K args) w0) (hK : ∀ (x : CeV) (q : Option Addr) (d : Nat) (w0 : World), Calls Tryz.prog K #[.agg #[.bool x.null, .slice q x.bytes.length d]] w0 fun e w' => e = .returned (.bool (P x)) ∧ Below w0.heap.size w0 w') :
    Calls Tryz.prog 58 #[.slice p n c, .func (.func K) #[] #[]] w fun e w' => e = .returned (.bool (decide (l.length ≤ 65535) && !l.any (fun c => !P c))) ∧ Below w.heap.size w w' := by
  obtain ⟨rfl, hlc, hcm⟩ := h.len
  unfold maxLen at hcm
  have hmf : ∀ (fn : Fn) (first cap : Array Value) (w : World), (Instr.makeFunc fn first cap).run Tryz.prog w = .ok (.func fn first cap) w := fun _ _ _ _ => rfl
  have hbel : Below w.heap.size w (w.alloc (.cells #[.func (.func K) #[] #[]] 84)) := (Below.refl _ _).alloc (Nat.le_refl _) _
  have hb1 : Blk (w.alloc (.cells #[.func (.func K) #[] #[]] 84)) w.heap.size 84 #[.func (.func K) #[] #[]] := Blk.new _ _ _
  have Hb := Lib.hid (And.intro hb1 hbel)
  have H1 := Lib.hid (h.below CeS.still hbel)
  have hl1 := hb1.lt
  obtain ⟨bv, hbv⟩ : ∃ bv, bv = (decide (l.length ≤ 65535) && !l.any (fun c => !P c)) := ⟨_, rfl⟩
  have Hv : Hid (bv = (decide ((l.length : Int) ≤ 65535) && !l.any (fun c => !P c))) := Lib.hid (by rw [hbv]; congr 1; simp only [decide_eq_decide]; omega)
  rw [← hbv]
  clear h hb1 hbel hbv
  go_enter Tryz.func58, Tryz.ntmps58
  go_upto_region 1 with (fail)
  generalize w.alloc (.cells #[.func (.func K) #[] #[]] 84) = w1 at *
  have Hc := Lib.hid (containsCe1 106 (.pointer (some ⟨w.heap.size, 0, none⟩)) (fun c => !P c) S p _ c l w1 H1.out (enter_of Tryz.func106 (by kernel_rfl) rfl)
    (fun x q d w0 hb  => everyCe1_any K P w.heap.size x q d w0 ((Hb.out.1.below hb hl1).cell 0) (by have := hb.size; omega) hE (fun w0 _ => hK x q d w0)))
  generalize l.any (fun c => !P c) = av at *
  have HE := Lib.hid hE
  have HK := Lib.hid hK
  clear hE hK
  by_cases hlen : (l.length : Int) ≤ 65535
  · rw [decide_eq_true hlen] at Hv
    go_wp2_with fail
    refine Hc.out.mono ?_
    rintro e w2 ⟨rfl, hb⟩
    have HB := Lib.hid (Hb.out.2.trans (hb.mono Hb.out.2.size))
    clear hb
    go_wp2_with fail
    go_ret
    exact ⟨ret_bool (by rw [Hv.out]; rfl), HB.out⟩
  · rw [decide_eq_false hlen] at Hv
    go_wp2_with fail
    go_ret
    exact ⟨ret_bool (by rw [Hv.out]; rfl), Hb.out.2⟩

theorem everyIn1_any (K : FuncId) (P : Int → Bool) (g : Nat) (x : Int) (w : World) (hg : w.cell? ⟨g, 0, none⟩ = some (.func (.func K) #[] #[])) (hlt : g < w.heap.size)
    (hE : ∀ (args : Array Value) (w0 : World), (callFunc K args).run Tryz.prog w0 = .ok (.enter K args) w0) (hK : ∀ (w0 : World), Below w.heap.size w w0 → Calls Tryz.prog K #[.int .i64 x] w0 fun e w' => e = .returned (.bool (P x)) ∧ Below w0.heap.size w0 w') :
    Calls Tryz.prog 108 #[.int .i64 x, .pointer (some ⟨g, 0, none⟩)] w fun e w' => e = .returned (.bool (!P x)) ∧ Below w.heap.size w w' := by
  have HK := Lib.hid (hK _ (Below.refl _ _))
  generalize P x = r at *
  clear hK
  go_enter Tryz.func108, Tryz.ntmps108
  go_wp2_with fail
  refine HK.out.mono ?_
  rintro e w2 ⟨rfl, hb⟩
  have HB2 := Lib.hid hb
  clear hb
  go_wp2_with fail
  go_ret
  exact ⟨rfl, HB2.out⟩

theorem everyIn_any (K : FuncId) (P : Int → Bool) (S : Nat → Prop) (p : Option Addr) (n c : Nat) (l : List Int) (w : World) (h : SliceS 1 IntU S w [.slice p n c] l)
    (hE : ∀ (args : Array Value) (w0 : World), (callFunc K args).run Tryz.prog w0 = .ok (.enter K args) w0) (hK : ∀ (x : Int) (w0 : World), Calls Tryz.prog K #[.int .i64 x] w0 fun e w' => e = .returned (.bool (P x)) ∧ Below w0.heap.size w0 w') :
    Calls Tryz.prog 60 #[.slice p n c, .func (.func K) #[] #[]] w fun e w' => e = .returned (.bool (decide (l.length ≤ 65535) && !l.any (fun c => !P c))) ∧ Below w.heap.size w w' := by
  obtain ⟨rfl, hlc, hcm⟩ := h.len
  unfold maxLen at hcm
  have hmf : ∀ (fn : Fn) (first cap : Array Value) (w : World), (Instr.makeFunc fn first cap).run Tryz.prog w = .ok (.func fn first cap) w := fun _ _ _ _ => rfl
  have hbel : Below w.heap.size w (w.alloc (.cells #[.func (.func K) #[] #[]] 106)) := (Below.refl _ _).alloc (Nat.le_refl _) _
  have hb1 : Blk (w.alloc (.cells #[.func (.func K) #[] #[]] 106)) w.heap.size 106 #[.func (.func K) #[] #[]] := Blk.new _ _ _
  have Hb := Lib.hid (And.intro hb1 hbel)
  have H1 := Lib.hid (h.below IntU.still hbel)
  have hl1 := hb1.lt
  obtain ⟨bv, hbv⟩ : ∃ bv, bv = (decide (l.length ≤ 65535) && !l.any (fun c => !P c)) := ⟨_, rfl⟩
  have Hv : Hid (bv = (decide ((l.length : Int) ≤ 65535) && !l.any (fun c => !P c))) := Lib.hid (by rw [hbv]; congr 1; simp only [decide_eq_decide]; omega)
  rw [← hbv]
  clear h hb1 hbel hbv
  go_enter Tryz.func60, Tryz.ntmps60
  go_upto_region 1 with (fail)
  generalize w.alloc (.cells #[.func (.func K) #[] #[]] 106) = w1 at *
  have Hc := Lib.hid (containsIn1 108 (.pointer (some ⟨w.heap.size, 0, none⟩)) (fun c => !P c) S p _ c l w1 H1.out (enter_of Tryz.func108 (by kernel_rfl) rfl)
    (fun x  w0 hb  => everyIn1_any K P w.heap.size x  w0 ((Hb.out.1.below hb hl1).cell 0) (by have := hb.size; omega) hE (fun w0 _ => hK x  w0)))
  generalize l.any (fun c => !P c) = av at *
  have HE := Lib.hid hE
  have HK := Lib.hid hK
  clear hE hK
  by_cases hlen : (l.length : Int) ≤ 65535
  · rw [decide_eq_true hlen] at Hv
    go_wp2_with fail
    refine Hc.out.mono ?_
    rintro e w2 ⟨rfl, hb⟩
    have HB := Lib.hid (Hb.out.2.trans (hb.mono Hb.out.2.size))
    clear hb
    go_wp2_with fail
    go_ret
    exact ⟨ret_bool (by rw [Hv.out]; rfl), HB.out⟩
  · rw [decide_eq_false hlen] at Hv
    go_wp2_with fail
    go_ret
    exact ⟨ret_bool (by rw [Hv.out]; rfl), Hb.out.2⟩

/-- The lists of a message: may they be. -/
theorem bcols_any (S : Nat → Prop) (p : Option Addr) (n c : Nat) (l : List CoV) (w : World) (h : SliceS 7 CoS S w [.slice p n c] l) :
    Calls Tryz.prog 54 #[.slice p n c, .func (.func 55) #[] #[]] w fun e w' => e = .returned (.bool (colsB l)) ∧ Below w.heap.size w w' :=
  everyCo_any 55 colB S p n c l w h (enter_of Tryz.func55 (by kernel_rfl) rfl) (fun x w0 => column_any x w0)
theorem bfields_any (S : Nat → Prop) (p : Option Addr) (n c : Nat) (l : List FdV) (w : World) (h : SliceS 2 FdS S w [.slice p n c] l) :
    Calls Tryz.prog 56 #[.slice p n c, .func (.func 57) #[] #[]] w fun e w' => e = .returned (.bool (fieldsB l)) ∧ Below w.heap.size w w' :=
  everyFd_any 57 fieldB S p n c l w h (enter_of Tryz.func57 (by kernel_rfl) rfl) (fun x w0 => field_any x w0)
theorem any_nn {α : Type} (P : α → Bool) (l : List α) : l.any (fun c => !!P c) = l.any P := by simp
theorem brow_any (S : Nat → Prop) (p : Option Addr) (n c : Nat) (l : List CeV) (w : World) (h : SliceS 2 CeS S w [.slice p n c] l) :
    Calls Tryz.prog 58 #[.slice p n c, .func (.func 59) #[] #[]] w fun e w' => e = .returned (.bool (valuesV l)) ∧ Below w.heap.size w w' := by
  have := everyCe_any 59 (fun c => !wrongC c) S p n c l w h (enter_of Tryz.func59 (by kernel_rfl) rfl) (fun x q d w0 => bcell_any x q d w0)
  rw [any_nn] at this
  exact this
theorem boids_any (S : Nat → Prop) (p : Option Addr) (n c : Nat) (l : List Int) (w : World) (h : SliceS 1 IntU S w [.slice p n c] l) :
    Calls Tryz.prog 60 #[.slice p n c, .func (.func 61) #[] #[]] w fun e w' => e = .returned (.bool (between l 0 4294967295)) ∧ Below w.heap.size w w' := by
  have := everyIn_any 61 (fun n => inR n 0 4294967295) S p n c l w h (enter_of Tryz.func61 (by kernel_rfl) rfl) (fun x w0 => (oid_any x w0).mono fun e w' h => ⟨h.1, by rw [← h.2]; exact Below.refl _ _⟩)
  have e : l.any (fun c => !inR c 0 4294967295) = l.any (outside 0 4294967295) := by simp [inR]
  rw [e] at this
  exact this

end Go.Proofs.YthhebfknikfleaaGreat
