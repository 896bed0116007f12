/-
  Messages of clients (layer 6): kinds; lists and texts that may be; both.
-/
import Derived.Test.YtldjfmddjbdciaaIdxI
import Derived.Test.YtldjfmddjbdciaaIdxC
import Derived.Test.YtldjfmddjbdciaaIdxS
import Derived.Test.YtldjfmddjbdciaaPackC
namespace Go.Proofs.Ytldjfmddjbdciaa
open Go.RowKit
set_option linter.unusedVariables false
set_option linter.unusedSimpArgs false

theorem known_1 : ∀ k : Fin 256, decide (0 ≤ Lib.indexByte [66, 67, 68, 69, 72, 80, 81, 83, 88] (UInt8.ofNat k.val)) = (knownV (k.val : Int) == 1) := by decide +kernel
theorem known_2 : ∀ k : Fin 256, (knownV (k.val : Int) == 1) = false → decide (0 ≤ Lib.indexByte [70, 99, 100, 102, 112] (UInt8.ofNat k.val)) = (knownV (k.val : Int) == 2) := by decide +kernel
theorem known_3 : ∀ k : Fin 256, (knownV (k.val : Int) == 1) = false → (knownV (k.val : Int) == 2) = false → knownV (k.val : Int) = 0 := by decide +kernel

theorem BytesIn.newK (w : World) (l : List UInt8) (cs : Array Value) (e : TypeId) (m : Nat × Nat) (h : cs.toList = bytesV l) : BytesIn (w.alloc (.cells cs e m)) (some ⟨w.heap.size, 0, none⟩) l := by
  intro i hi
  refine ⟨w.heap.size, 0, rfl, ?_⟩
  have hcs : cs = (bytesV l).toArray := by rw [← h]
  subst hcs
  have hb : (w.alloc (.cells (bytesV l).toArray e m)).heap[w.heap.size]? = some (.cells (bytesV l).toArray e m) := by
    show (w.heap.push _)[w.heap.size]? = _
    exact Array.getElem?_push_size
  simp only [World.cell?, hb]
  simp [bytesV, byteV, List.getD, hi]
set_option maxRecDepth 100000 in
theorem known_any (k : Int) (h0 : 0 ≤ k) (h1 : k < 256) (w : World) : Calls Try.prog 32 #[.int .u8 k] w fun e w' => e = .returned (.int .i64 (knownV k)) ∧ Below w.heap.size w w' := by
  obtain ⟨n, rfl⟩ := Int.eq_ofNat_of_zero_le h0
  have hn : n < 256 := by omega
  have Hi1 := Lib.hid (known_1 ⟨n, hn⟩)
  have Hi2 := Lib.hid (known_2 ⟨n, hn⟩)
  have Hi3 := Lib.hid (known_3 ⟨n, hn⟩)
  dsimp only at Hi1 Hi2 Hi3
  have HA := Lib.hid ((Below.refl w.heap.size w).alloc (Nat.le_refl _) (.cells #[.int .u8 66, .int .u8 67, .int .u8 68, .int .u8 69, .int .u8 72, .int .u8 80, .int .u8 81, .int .u8 83, .int .u8 88] 5 (9, 10)))
  have Hb1 := Lib.hid (BytesIn.newK w [66, 67, 68, 69, 72, 80, 81, 83, 88] #[.int .u8 66, .int .u8 67, .int .u8 68, .int .u8 69, .int .u8 72, .int .u8 80, .int .u8 81, .int .u8 83, .int .u8 88] 5 (9, 10) rfl)
  have Hc1 := Lib.hid (bytesIndexByte (some ⟨w.heap.size, 0, none⟩) [66, 67, 68, 69, 72, 80, 81, 83, 88] 9 (n : Int) _ Hb1.out)
  have hz1 : w.heap.size ≤ (w.alloc (.cells #[.int .u8 66, .int .u8 67, .int .u8 68, .int .u8 69, .int .u8 72, .int .u8 80, .int .u8 81, .int .u8 83, .int .u8 88] 5 (9, 10))).heap.size := by simp
  have hu : ((n : Int).toNat.toUInt8) = UInt8.ofNat n := rfl
  rw [hu] at Hc1
  have hl1 : ([66, 67, 68, 69, 72, 80, 81, 83, 88] : List UInt8).length = 9 := rfl
  rw [hl1] at Hc1
  generalize Lib.indexByte [66, 67, 68, 69, 72, 80, 81, 83, 88] (UInt8.ofNat n) = i1 at *
  obtain ⟨i2, hi2⟩ : ∃ i, Lib.indexByte [70, 99, 100, 102, 112] (UInt8.ofNat n) = i := ⟨_, rfl⟩
  rw [hi2] at Hi2
  have He2 := Lib.hid hi2
  obtain ⟨kv, hkv⟩ : ∃ kv, knownV (n : Int) = kv := ⟨_, rfl⟩
  rw [hkv] at Hi1 Hi2 Hi3 ⊢
  clear hkv hi2 hu hl1
  have kc := fun (w : World) (C : Array Value) (n c : Nat) => Lib.run_convert_bytes_const (P := Try.prog) w 38 5 C n c Try.underlying38 Try.underlying5
  go_enter Try.func32, Try.ntmps32
  go_wp2_with fail
  generalize w.alloc (.cells #[.int .u8 66, .int .u8 67, .int .u8 68, .int .u8 69, .int .u8 72, .int .u8 80, .int .u8 81, .int .u8 83, .int .u8 88] 5 (9, 10)) = w1 at *
  refine Hc1.out.mono ?_
  rintro e w2 ⟨rfl, rfl⟩
  by_cases g1 : 0 ≤ i1
  · have hk1 : kv = 1 := by have := Hi1.out; rw [decide_eq_true g1] at this; simpa using this.symm
    subst hk1
    go_wp2_with fail
    go_ret
    exact ⟨rfl, HA.out⟩
  · have hk1 : (kv == 1) = false := by have := Hi1.out; rw [decide_eq_false g1] at this; exact this.symm
    have Hk2 := Lib.hid (Hi2.out hk1)
    have Hk3 := Lib.hid (Hi3.out hk1)
    have Hb2 := Lib.hid (BytesIn.newK w1 [70, 99, 100, 102, 112] #[.int .u8 70, .int .u8 99, .int .u8 100, .int .u8 102, .int .u8 112] 5 (5, 6) rfl)
    have Hc2 := Lib.hid (bytesIndexByte (some ⟨w1.heap.size, 0, none⟩) [70, 99, 100, 102, 112] 5 (n : Int) _ Hb2.out)
    have hl2 : ([70, 99, 100, 102, 112] : List UInt8).length = 5 := rfl
    have hu : ((n : Int).toNat.toUInt8) = UInt8.ofNat n := rfl
    rw [hl2, hu, He2.out] at Hc2
    have HA2 := Lib.hid (HA.out.alloc hz1 (.cells #[.int .u8 70, .int .u8 99, .int .u8 100, .int .u8 102, .int .u8 112] 5 (5, 6)))
    clear hk1 hl2 hu
    go_wp2_with fail
    refine Hc2.out.mono ?_
    rintro e w3 ⟨rfl, rfl⟩
    by_cases g2 : 0 ≤ i2
    · have hk2 : kv = 2 := by have := Hk2.out; rw [decide_eq_true g2] at this; simpa using this.symm
      subst hk2
      go_wp2_with fail
      go_ret
      exact ⟨rfl, HA2.out⟩
    · have hk2 : kv = 0 := Hk3.out (by have := Hk2.out; rw [decide_eq_false g2] at this; exact this.symm)
      subst hk2
      go_wp2_with fail
      go_ret
      exact ⟨rfl, HA2.out⟩

set_option maxRecDepth 100000 in
theorem rknown_any (k : Int) (w : World) : Calls Try.prog 33 #[.int .u8 k] w fun e w' => e = .returned (.int .i64 (knownV k)) ∧ w = w' := by
  have Hk : Hid (knownV k = if k ∈ [66, 67, 68, 69, 72, 80, 81, 83, 88] then 1 else if k ∈ [70, 99, 100, 102, 112] then 2 else 0) := Lib.hid rfl
  generalize knownV k = kv at *
  go_enter Try.func33, Try.ntmps33
  go_wp2
  all_goals
    go_ret
    refine ⟨ret_int ?_, rfl⟩
    rw [Hk.out]
    simp_all

theorem enter_of {K : FuncId} {fn : Func} {c : Code} (hf : Try.prog.funcs[K]? = some fn) (hname : (fn.name == "runtime.NumGoroutine") = false) (hb : fn.body = some c) (args : Array Value) (w : World) :
    (callFunc K args).run Try.prog w = .ok (.enter K args) w := by
  have h1 : fn.name ≠ "runtime.NumGoroutine" := by simpa using hname
  simp [callFunc, hf, h1, hb]

/-- Numbers between two others. -/
theorem outside_any (n lo hi : Int) (g h : Nat) (w : World) (hg : w.cell? ⟨g, 0, none⟩ = some (.int .i64 lo)) (hh : w.cell? ⟨h, 0, none⟩ = some (.int .i64 hi)) :
    Calls Try.prog 83 #[.int .i64 n, .pointer (some ⟨g, 0, none⟩), .pointer (some ⟨h, 0, none⟩)] w fun e w' => e = .returned (.bool (outside lo hi n)) ∧ Below w.heap.size w w' := by
  have Ho : Hid (outside lo hi n = (decide (n < lo) || decide (hi < n))) := Lib.hid rfl
  generalize outside lo hi n = r at *
  go_enter Try.func83, Try.ntmps83
  go_wp2
  all_goals
    go_ret
    refine ⟨ret_bool ?_, Below.refl _ _⟩
    rw [Ho.out]
    first | done | simp_all

set_option maxRecDepth 100000 in
theorem within_any (S : Nat → Prop) (p : Option Addr) (n c : Nat) (l : List Int) (lo hi : Int) (w : World) (h : SliceS 1 IntU S w [.slice p n c] l) :
    Calls Try.prog 56 #[.slice p n c, .int .i64 lo, .int .i64 hi] w fun e w' => e = .returned (.bool (between l lo hi)) ∧ Below w.heap.size w w' := by
  obtain ⟨rfl, hlc, hcm⟩ := h.len
  unfold maxLen at hcm
  have hmf : ∀ (fn : Fn) (first cap : Array Value) (w : World), (Instr.makeFunc fn first cap).run Try.prog w = .ok (.func fn first cap) w := fun _ _ _ _ => rfl
  have hbel : Below w.heap.size w ((w.alloc (.cells #[.int .i64 lo] 3)).alloc (.cells #[.int .i64 hi] 3)) := ((Below.refl _ _).alloc (Nat.le_refl _) _).alloc (by simp) _
  have hb1 : Blk ((w.alloc (.cells #[.int .i64 lo] 3)).alloc (.cells #[.int .i64 hi] 3)) w.heap.size 3 #[.int .i64 lo] := (Blk.new _ _ _).alloc _
  have hb2 : Blk ((w.alloc (.cells #[.int .i64 lo] 3)).alloc (.cells #[.int .i64 hi] 3)) (w.heap.size + 1) 3 #[.int .i64 hi] := by
    have := Blk.new (w.alloc (.cells #[.int .i64 lo] 3)) 3 #[.int .i64 hi]
    simpa using this
  have Hb := Lib.hid (And.intro hb1 (And.intro hb2 hbel))
  have H1 := Lib.hid (h.below IntU.still hbel)
  have hl1 := hb1.lt
  have hl2 := hb2.lt
  have Hv : Hid (between l lo hi = (decide ((l.length : Int) ≤ 65535) && !l.any (outside lo hi))) := Lib.hid (by unfold between; congr 1; simp only [decide_eq_decide]; omega)
  generalize between l lo hi = bv at *
  clear h hb1 hb2 hbel
  go_enter Try.func56, Try.ntmps56
  go_upto_region 1 with (fail)
  generalize (w.alloc (.cells #[.int .i64 lo] 3)).alloc (.cells #[.int .i64 hi] 3) = w1 at *
  have Hc := Lib.hid (containsInt2 83 (.pointer (some ⟨w.heap.size, 0, none⟩)) (.pointer (some ⟨w.heap.size + 1, 0, none⟩)) (outside lo hi) S p _ c l w1 H1.out (enter_of Try.func83 (by kernel_rfl) rfl)
    (fun x w0 hb => outside_any x lo hi _ _ w0 ((Hb.out.1.below hb hl1).cell 0) ((Hb.out.2.1.below hb hl2).cell 0)))
  generalize l.any (outside lo hi) = av at *
  by_cases hlen : (l.length : Int) ≤ 65535
  · rw [decide_eq_true hlen] at Hv
    go_wp2_with fail
    refine Hc.out.mono ?_
    rintro e w2 ⟨rfl, hb⟩
    have HB := Lib.hid (Hb.out.2.2.trans (hb.mono Hb.out.2.2.size))
    clear hb
    go_wp2_with fail
    go_ret
    exact ⟨ret_bool (by rw [Hv.out]; rfl), HB.out⟩
  · rw [decide_eq_false hlen] at Hv
    go_wp2_with fail
    go_ret
    exact ⟨ret_bool (by rw [Hv.out]; rfl), Hb.out.2.2⟩

theorem notAny_all {α : Type} {P : α → Bool} {L : List α} (h : ∀ j (hj : j < L.length), P L[j] = false) : L.any P = false := by
  rw [List.any_eq_false]
  intro x hx
  obtain ⟨k, hk, rfl⟩ := List.getElem_of_mem hx
  rw [h k hk]
  decide
theorem any_at {α : Type} {P : α → Bool} {L : List α} {k : Nat} (hk : k < L.length) (h : P L[k] = true) : L.any P = true := List.any_eq_true.2 ⟨_, List.getElem_mem hk, h⟩

set_option maxRecDepth 100000 in
set_option maxHeartbeats 4000000 in
theorem rbetween_any (S : Nat → Prop) (p : Option Addr) (n c : Nat) (l : List Int) (lo hi : Int) (w : World) (h : SliceS 1 IntU S w [.slice p n c] l) :
    Calls Try.prog 41 #[.slice p n c, .int .i64 lo, .int .i64 hi] w fun e w' => e = .returned (.bool (between l lo hi)) ∧ w = w' := by
  obtain ⟨rfl, hlc, hcm⟩ := h.len
  unfold maxLen at hcm
  have H := Lib.hid h
  have Hv : Hid (between l lo hi = (decide ((l.length : Int) ≤ 65535) && !l.any (outside lo hi))) := Lib.hid (by unfold between; congr 1; simp only [decide_eq_decide]; omega)
  generalize between l lo hi = bv at *
  clear h
  by_cases hlen : (l.length : Int) ≤ 65535
  · rw [decide_eq_true hlen, Bool.true_and] at Hv
    go_enter Try.func41, Try.ntmps41
    go_wp2_with fail
    go_loopw [7] (fun i wr => ∃ k : Nat, k ≤ l.length ∧ i = .int .i64 k ∧ (∀ j (hj : j < l.length), j < k → outside lo hi l[j] = false) ∧ wr = w) (fun i _ => l.length - (intOf i).toNat)
    case atStart => exact ⟨0, Nat.zero_le _, rfl, (fun j _ h => by omega), rfl⟩
    case round =>
      obtain ⟨k, hk, rfl, hall, rfl⟩ := hrel
      have Hall := Lib.hid hall
      clear hall
      by_cases hltk : k < l.length
      · obtain ⟨b, o, rfl, hS, hbl, c0⟩ := int_at H.out hltk
        have Hbad := Lib.hid (any_at (P := outside lo hi) hltk)
        have Hgood := Lib.hid (fun h : outside lo hi l[k] = false => (fun j (hj : j < l.length) (hjk : j < k + 1) => by
          by_cases e : j = k
          · subst e; exact h
          · exact Hall.out j hj (by omega) : ∀ j (hj : j < l.length), j < k + 1 → outside lo hi l[j] = false))
        have Hx : Hid (outside lo hi l[k] = (decide (l[k] < lo) || decide (hi < l[k]))) := Lib.hid rfl
        clear hS
        generalize outside lo hi l[k] = uf at *
        generalize l[k] = x at *
        have hlti : (k : Int) < (l.length : Int) := by omega
        by_cases h1 : x < lo
        · have Hf := Lib.hid (Hbad.out (by rw [Hx.out, decide_eq_true h1]; rfl))
          go_wp2_with fail
          go_ret
          exact ⟨ret_bool (by rw [Hv.out, Hf.out]; rfl), rfl⟩
        · by_cases h2 : hi < x
          · have Hf := Lib.hid (Hbad.out (by rw [Hx.out, decide_eq_true h2]; simp))
            go_wp2_with fail
            go_ret
            exact ⟨ret_bool (by rw [Hv.out, Hf.out]; rfl), rfl⟩
          · have Hf := Lib.hid (Hgood.out (by rw [Hx.out, decide_eq_false h1, decide_eq_false h2]; rfl))
            go_wp2_with fail
            go_roundw
            case rel => exact ⟨k + 1, by omega, by go_num, Hf.out, by first | rfl | trivial⟩
            case measure => simp [intOf]; omega
      · obtain rfl : k = l.length := by omega
        have Hf := Lib.hid (notAny_all (P := outside lo hi) (fun j hj => Hall.out j hj hj))
        clear Hall
        go_wp2_with fail
        go_ret
        exact ⟨ret_bool (by rw [Hv.out, Hf.out]; rfl), rfl⟩
  · rw [decide_eq_false hlen] at Hv
    go_enter Try.func41, Try.ntmps41
    go_wp2_with fail
    go_ret
    exact ⟨ret_bool (by rw [Hv.out]; rfl), rfl⟩

end Go.Proofs.Ytldjfmddjbdciaa
