/-
  Ground: FoC, FoD, FoE, FoF, Arr3, FoG.
-/
import Derived.Test.YtacnmdlefonjmaaGreatPdZP4
import Derived.Test.YtacnmdlefonjmaaGreatPdZP2
import Derived.Test.YtacnmdlefonjmaaGreatPdZP1
/-
  Messages of clients (layer 6): kinds; lists and texts that may be; both.
-/
namespace Go.Proofs.YtacnmdlefonjmaaGreat
open Go.RowKit
set_option linter.unusedVariables false
set_option linter.unusedSimpArgs false

theorem known_1 : ∀ k : Fin 256, decide (0 ≤ Lib.indexByte [66, 67, 68, 69, 72, 80, 81, 83, 88] (UInt8.ofNat k.val)) = (knownV (k.val : Int) == 1) := by decide +kernel
theorem known_2 : ∀ k : Fin 256, (knownV (k.val : Int) == 1) = false → decide (0 ≤ Lib.indexByte [70, 99, 100, 102, 112] (UInt8.ofNat k.val)) = (knownV (k.val : Int) == 2) := by decide +kernel
theorem known_3 : ∀ k : Fin 256, (knownV (k.val : Int) == 1) = false → (knownV (k.val : Int) == 2) = false → knownV (k.val : Int) = 0 := by decide +kernel

theorem BytesIn.newK (w : World) (l : List UInt8) (cs : Array Value) (e : TypeId) (m : Nat × Nat) (h : cs.toList = bytesV l) : BytesIn (w.alloc (.cells cs e m)) (some ⟨w.heap.size, 0, none⟩) l := by
  intro i hi
  refine ⟨w.heap.size, 0, rfl, ?_⟩
  have hcs : cs = (bytesV l).toArray := by rw [← h]
  subst hcs
  have hb : (w.alloc (.cells (bytesV l).toArray e m)).heap[w.heap.size]? = some (.cells (bytesV l).toArray e m) := by
    show (w.heap.push _)[w.heap.size]? = _
    exact Array.getElem?_push_size
  simp only [World.cell?, hb]
  simp [bytesV, byteV, List.getD, hi]
set_option maxRecDepth 100000 in
theorem known_any (k : Int) (h0 : 0 ≤ k) (h1 : k < 256) (w : World) : Calls Tryz.prog 87 #[.int .u8 k] w fun e w' => e = .returned (.int .i64 (knownV k)) ∧ Below w.heap.size w w' := by
  obtain ⟨n, rfl⟩ := Int.eq_ofNat_of_zero_le h0
  have hn : n < 256 := by omega
  have Hi1 := Lib.hid (known_1 ⟨n, hn⟩)
  have Hi2 := Lib.hid (known_2 ⟨n, hn⟩)
  have Hi3 := Lib.hid (known_3 ⟨n, hn⟩)
  dsimp only at Hi1 Hi2 Hi3
  have HA := Lib.hid ((Below.refl w.heap.size w).alloc (Nat.le_refl _) (.cells #[.int .u8 66, .int .u8 67, .int .u8 68, .int .u8 69, .int .u8 72, .int .u8 80, .int .u8 81, .int .u8 83, .int .u8 88] 5 (9, 10)))
  have Hb1 := Lib.hid (BytesIn.newK w [66, 67, 68, 69, 72, 80, 81, 83, 88] #[.int .u8 66, .int .u8 67, .int .u8 68, .int .u8 69, .int .u8 72, .int .u8 80, .int .u8 81, .int .u8 83, .int .u8 88] 5 (9, 10) rfl)
  have Hc1 := Lib.hid (bytesIndexByte (some ⟨w.heap.size, 0, none⟩) [66, 67, 68, 69, 72, 80, 81, 83, 88] 9 (n : Int) _ Hb1.out)
  have hz1 : w.heap.size ≤ (w.alloc (.cells #[.int .u8 66, .int .u8 67, .int .u8 68, .int .u8 69, .int .u8 72, .int .u8 80, .int .u8 81, .int .u8 83, .int .u8 88] 5 (9, 10))).heap.size := by simp
  have hu : ((n : Int).toNat.toUInt8) = UInt8.ofNat n := rfl
  rw [hu] at Hc1
  have hl1 : ([66, 67, 68, 69, 72, 80, 81, 83, 88] : List UInt8).length = 9 := rfl
  rw [hl1] at Hc1
  generalize Lib.indexByte [66, 67, 68, 69, 72, 80, 81, 83, 88] (UInt8.ofNat n) = i1 at *
  obtain ⟨i2, hi2⟩ : ∃ i, Lib.indexByte [70, 99, 100, 102, 112] (UInt8.ofNat n) = i := ⟨_, rfl⟩
  rw [hi2] at Hi2
  have He2 := Lib.hid hi2
  obtain ⟨kv, hkv⟩ : ∃ kv, knownV (n : Int) = kv := ⟨_, rfl⟩
  rw [hkv] at Hi1 Hi2 Hi3 ⊢
  clear hkv hi2 hu hl1
  have kc := fun (w : World) (C : Array Value) (n c : Nat) => Lib.run_convert_bytes_const (P := Tryz.prog) w 32 5 C n c Tryz.underlying32 Tryz.underlying5
  go_enter Tryz.func87, Tryz.ntmps87
  go_wp2_with fail
  generalize w.alloc (.cells #[.int .u8 66, .int .u8 67, .int .u8 68, .int .u8 69, .int .u8 72, .int .u8 80, .int .u8 81, .int .u8 83, .int .u8 88] 5 (9, 10)) = w1 at *
  refine Hc1.out.mono ?_
  rintro e w2 ⟨rfl, rfl⟩
  by_cases g1 : 0 ≤ i1
  · have hk1 : kv = 1 := by have := Hi1.out; rw [decide_eq_true g1] at this; simpa using this.symm
    subst hk1
    go_wp2_with fail
    go_ret
    exact ⟨rfl, HA.out⟩
  · have hk1 : (kv == 1) = false := by have := Hi1.out; rw [decide_eq_false g1] at this; exact this.symm
    have Hk2 := Lib.hid (Hi2.out hk1)
    have Hk3 := Lib.hid (Hi3.out hk1)
    have Hb2 := Lib.hid (BytesIn.newK w1 [70, 99, 100, 102, 112] #[.int .u8 70, .int .u8 99, .int .u8 100, .int .u8 102, .int .u8 112] 5 (5, 6) rfl)
    have Hc2 := Lib.hid (bytesIndexByte (some ⟨w1.heap.size, 0, none⟩) [70, 99, 100, 102, 112] 5 (n : Int) _ Hb2.out)
    have hl2 : ([70, 99, 100, 102, 112] : List UInt8).length = 5 := rfl
    have hu : ((n : Int).toNat.toUInt8) = UInt8.ofNat n := rfl
    rw [hl2, hu, He2.out] at Hc2
    have HA2 := Lib.hid (HA.out.alloc hz1 (.cells #[.int .u8 70, .int .u8 99, .int .u8 100, .int .u8 102, .int .u8 112] 5 (5, 6)))
    clear hk1 hl2 hu
    go_wp2_with fail
    refine Hc2.out.mono ?_
    rintro e w3 ⟨rfl, rfl⟩
    by_cases g2 : 0 ≤ i2
    · have hk2 : kv = 2 := by have := Hk2.out; rw [decide_eq_true g2] at this; simpa using this.symm
      subst hk2
      go_wp2_with fail
      go_ret
      exact ⟨rfl, HA2.out⟩
    · have hk2 : kv = 0 := Hk3.out (by have := Hk2.out; rw [decide_eq_false g2] at this; exact this.symm)
      subst hk2
      go_wp2_with fail
      go_ret
      exact ⟨rfl, HA2.out⟩

set_option maxRecDepth 100000 in
theorem rknown_any (k : Int) (w : World) : Calls Tryz.prog 59 #[.int .u8 k] w fun e w' => e = .returned (.int .i64 (knownV k)) ∧ w = w' := by
  have Hk : Hid (knownV k = if k ∈ [66, 67, 68, 69, 72, 80, 81, 83, 88] then 1 else if k ∈ [70, 99, 100, 102, 112] then 2 else 0) := Lib.hid rfl
  generalize knownV k = kv at *
  go_enter Tryz.func59, Tryz.ntmps59
  go_wp2
  all_goals
    go_ret
    refine ⟨ret_int ?_, rfl⟩
    rw [Hk.out]
    simp_all

theorem enter_of {K : FuncId} {fn : Func} {c : Code} (hf : Tryz.prog.funcs[K]? = some fn) (hname : (fn.name == "runtime.NumGoroutine") = false) (hb : fn.body = some c) (args : Array Value) (w : World) :
    (callFunc K args).run Tryz.prog w = .ok (.enter K args) w := by
  have h1 : fn.name ≠ "runtime.NumGoroutine" := by simpa using hname
  simp [callFunc, hf, h1, hb]

/-- Numbers between two others. -/
theorem outside_any (n lo hi : Int) (g h : Nat) (w : World) (hg : w.cell? ⟨g, 0, none⟩ = some (.int .i64 lo)) (hh : w.cell? ⟨h, 0, none⟩ = some (.int .i64 hi)) :
    Calls Tryz.prog 118 #[.int .i64 n, .pointer (some ⟨g, 0, none⟩), .pointer (some ⟨h, 0, none⟩)] w fun e w' => e = .returned (.bool (outside lo hi n)) ∧ Below w.heap.size w w' := by
  have Ho : Hid (outside lo hi n = (decide (n < lo) || decide (hi < n))) := Lib.hid rfl
  generalize outside lo hi n = r at *
  go_enter Tryz.func118, Tryz.ntmps118
  go_wp2
  all_goals
    go_ret
    refine ⟨ret_bool ?_, Below.refl _ _⟩
    rw [Ho.out]
    first | done | simp_all

set_option maxRecDepth 100000 in
theorem within_any (S : Nat → Prop) (p : Option Addr) (n c : Nat) (l : List Int) (lo hi : Int) (w : World) (h : SliceS 1 IntU S w [.slice p n c] l) :
    Calls Tryz.prog 103 #[.slice p n c, .int .i64 lo, .int .i64 hi] w fun e w' => e = .returned (.bool (between l lo hi)) ∧ Below w.heap.size w w' := by
  obtain ⟨rfl, hlc, hcm⟩ := h.len
  unfold maxLen at hcm
  have hmf : ∀ (fn : Fn) (first cap : Array Value) (w : World), (Instr.makeFunc fn first cap).run Tryz.prog w = .ok (.func fn first cap) w := fun _ _ _ _ => rfl
  have hbel : Below w.heap.size w ((w.alloc (.cells #[.int .i64 lo] 3)).alloc (.cells #[.int .i64 hi] 3)) := ((Below.refl _ _).alloc (Nat.le_refl _) _).alloc (by simp) _
  have hb1 : Blk ((w.alloc (.cells #[.int .i64 lo] 3)).alloc (.cells #[.int .i64 hi] 3)) w.heap.size 3 #[.int .i64 lo] := (Blk.new _ _ _).alloc _
  have hb2 : Blk ((w.alloc (.cells #[.int .i64 lo] 3)).alloc (.cells #[.int .i64 hi] 3)) (w.heap.size + 1) 3 #[.int .i64 hi] := by
    have := Blk.new (w.alloc (.cells #[.int .i64 lo] 3)) 3 #[.int .i64 hi]
    simpa using this
  have Hb := Lib.hid (And.intro hb1 (And.intro hb2 hbel))
  have H1 := Lib.hid (h.below IntU.still hbel)
  have hl1 := hb1.lt
  have hl2 := hb2.lt
  have Hv : Hid (between l lo hi = (decide ((l.length : Int) ≤ 65535) && !l.any (outside lo hi))) := Lib.hid (by unfold between; congr 1; simp only [decide_eq_decide]; omega)
  generalize between l lo hi = bv at *
  clear h hb1 hb2 hbel
  go_enter Tryz.func103, Tryz.ntmps103
  go_upto_region 1 with (fail)
  generalize (w.alloc (.cells #[.int .i64 lo] 3)).alloc (.cells #[.int .i64 hi] 3) = w1 at *
  have Hc := Lib.hid (containsInt2 118 (.pointer (some ⟨w.heap.size, 0, none⟩)) (.pointer (some ⟨w.heap.size + 1, 0, none⟩)) (outside lo hi) S p _ c l w1 H1.out (enter_of Tryz.func118 (by kernel_rfl) rfl)
    (fun x w0 hb => outside_any x lo hi _ _ w0 ((Hb.out.1.below hb hl1).cell 0) ((Hb.out.2.1.below hb hl2).cell 0)))
  generalize l.any (outside lo hi) = av at *
  by_cases hlen : (l.length : Int) ≤ 65535
  · rw [decide_eq_true hlen] at Hv
    go_wp2_with fail
    refine Hc.out.mono ?_
    rintro e w2 ⟨rfl, hb⟩
    have HB := Lib.hid (Hb.out.2.2.trans (hb.mono Hb.out.2.2.size))
    clear hb
    go_wp2_with fail
    go_ret
    exact ⟨ret_bool (by rw [Hv.out]; rfl), HB.out⟩
  · rw [decide_eq_false hlen] at Hv
    go_wp2_with fail
    go_ret
    exact ⟨ret_bool (by rw [Hv.out]; rfl), Hb.out.2.2⟩

theorem notAny_all {α : Type} {P : α → Bool} {L : List α} (h : ∀ j (hj : j < L.length), P L[j] = false) : L.any P = false := by
  rw [List.any_eq_false]
  intro x hx
  obtain ⟨k, hk, rfl⟩ := List.getElem_of_mem hx
  rw [h k hk]
  decide
theorem any_at {α : Type} {P : α → Bool} {L : List α} {k : Nat} (hk : k < L.length) (h : P L[k] = true) : L.any P = true := List.any_eq_true.2 ⟨_, List.getElem_mem hk, h⟩

set_option maxRecDepth 100000 in
set_option maxHeartbeats 4000000 in
theorem rbetween_any (S : Nat → Prop) (p : Option Addr) (n c : Nat) (l : List Int) (lo hi : Int) (w : World) (h : SliceS 1 IntU S w [.slice p n c] l) :
    Calls Tryz.prog 81 #[.slice p n c, .int .i64 lo, .int .i64 hi] w fun e w' => e = .returned (.bool (between l lo hi)) ∧ w = w' := by
  obtain ⟨rfl, hlc, hcm⟩ := h.len
  unfold maxLen at hcm
  have H := Lib.hid h
  have Hv : Hid (between l lo hi = (decide ((l.length : Int) ≤ 65535) && !l.any (outside lo hi))) := Lib.hid (by unfold between; congr 1; simp only [decide_eq_decide]; omega)
  generalize between l lo hi = bv at *
  clear h
  by_cases hlen : (l.length : Int) ≤ 65535
  · rw [decide_eq_true hlen, Bool.true_and] at Hv
    go_enter Tryz.func81, Tryz.ntmps81
    go_wp2_with fail
    go_loopw [7] (fun i wr => ∃ k : Nat, k ≤ l.length ∧ i = .int .i64 k ∧ (∀ j (hj : j < l.length), j < k → outside lo hi l[j] = false) ∧ wr = w) (fun i _ => l.length - (intOf i).toNat)
    case atStart => exact ⟨0, Nat.zero_le _, rfl, (fun j _ h => by omega), rfl⟩
    case round =>
      obtain ⟨k, hk, rfl, hall, rfl⟩ := hrel
      have Hall := Lib.hid hall
      clear hall
      by_cases hltk : k < l.length
      · obtain ⟨b, o, rfl, hS, hbl, c0⟩ := int_at H.out hltk
        have Hbad := Lib.hid (any_at (P := outside lo hi) hltk)
        have Hgood := Lib.hid (fun h : outside lo hi l[k] = false => (fun j (hj : j < l.length) (hjk : j < k + 1) => by
          by_cases e : j = k
          · subst e; exact h
          · exact Hall.out j hj (by omega) : ∀ j (hj : j < l.length), j < k + 1 → outside lo hi l[j] = false))
        have Hx : Hid (outside lo hi l[k] = (decide (l[k] < lo) || decide (hi < l[k]))) := Lib.hid rfl
        clear hS
        generalize outside lo hi l[k] = uf at *
        generalize l[k] = x at *
        have hlti : (k : Int) < (l.length : Int) := by omega
        by_cases h1 : x < lo
        · have Hf := Lib.hid (Hbad.out (by rw [Hx.out, decide_eq_true h1]; rfl))
          go_wp2_with fail
          go_ret
          exact ⟨ret_bool (by rw [Hv.out, Hf.out]; rfl), rfl⟩
        · by_cases h2 : hi < x
          · have Hf := Lib.hid (Hbad.out (by rw [Hx.out, decide_eq_true h2]; simp))
            go_wp2_with fail
            go_ret
            exact ⟨ret_bool (by rw [Hv.out, Hf.out]; rfl), rfl⟩
          · have Hf := Lib.hid (Hgood.out (by rw [Hx.out, decide_eq_false h1, decide_eq_false h2]; rfl))
            go_wp2_with fail
            go_roundw
            case rel => exact ⟨k + 1, by omega, by go_num, Hf.out, by first | rfl | trivial⟩
            case measure => simp [intOf]; omega
      · obtain rfl : k = l.length := by omega
        have Hf := Lib.hid (notAny_all (P := outside lo hi) (fun j hj => Hall.out j hj hj))
        clear Hall
        go_wp2_with fail
        go_ret
        exact ⟨ret_bool (by rw [Hv.out, Hf.out]; rfl), rfl⟩
  · rw [decide_eq_false hlen] at Hv
    go_enter Tryz.func81, Tryz.ntmps81
    go_wp2_with fail
    go_ret
    exact ⟨ret_bool (by rw [Hv.out]; rfl), rfl⟩

end Go.Proofs.YtacnmdlefonjmaaGreat

/-
  Messages of clients (layer 6): lists of numbers compared.
-/
namespace Go.Proofs.YtacnmdlefonjmaaGreat
open Go.RowKit
set_option linter.unusedVariables false
set_option linter.unusedSimpArgs false

theorem bel_drawN (w : World) (r : Nat) : Below w.heap.size w (w.drewN r) := ((Touch.refl (fun _ => False) w).drewN r).below (Nat.le_refl _) (fun _ e => e.elim)

set_option maxRecDepth 100000 in
set_option maxHeartbeats 4000000 in
theorem eqInts_any (S S' : Nat → Prop) (p q : Option Addr) (n m c d : Nat) (xs ys : List Int) (w : World) (hx : SliceS 1 IntU S w [.slice p n c] xs) (hy : SliceS 1 IntU S' w [.slice q m d] ys) :
    Calls Tryz.prog 123 #[.slice p n c, .slice q m d] w fun e w' => e = .returned (.bool (listEq intsEq xs ys)) ∧ Below w.heap.size w w' := by
  have Hx := Lib.hid hx
  have Hy := Lib.hid hy
  obtain ⟨rfl, hlc, hcm⟩ := hx.len
  obtain ⟨rfl, hld, hdm⟩ := hy.len
  unfold maxLen at hcm hdm
  clear hx hy
  by_cases hnm : xs.length = ys.length
  · have Hnm := Lib.hid hnm
    rw [← hnm] at hld ⊢
    clear hnm
    go_enter Tryz.func123, Tryz.ntmps123
    go_wp2_with fail
    go_loopw [5, 13] (fun _ i wr => ∃ k r : Nat, k ≤ xs.length ∧ i = .int .i64 k ∧ wr = w.drewN r ∧ listEq intsEq xs ys = listEq intsEq (xs.drop k) (ys.drop k)) (fun _ i _ => xs.length - (intOf i).toNat)
    case atStart => exact ⟨0, 0, Nat.zero_le _, rfl, rfl, rfl⟩
    case round =>
      obtain ⟨k, r, hk, rfl, rfl, he⟩ := hrel
      have He := Lib.hid he
      clear he
      by_cases hlt : k < xs.length
      · have hlt' : k < ys.length := by rw [← Hnm.out]; exact hlt
        obtain ⟨b, o, rfl, _, hbl, c0⟩ := int_at Hx.out hlt
        obtain ⟨b', o', rfl, _, hbl', e0⟩ := int_at Hy.out hlt'
        have c0 : (w.drewN r).cell? _ = _ := c0
        have e0 : (w.drewN r).cell? _ = _ := e0
        have Hst := Lib.hid (listEq_step (f := intsEq) hlt hlt')
        clear hbl hbl'
        generalize hX : xs[k] = x at *
        generalize hY : ys[k] = y at *
        clear hX hY hlt'
        obtain ⟨wq, hwq⟩ : ∃ wq, wq = w.drewN r := ⟨_, rfl⟩
        rw [← hwq] at c0 e0 ⊢
        have Hwq := Lib.hid hwq
        clear hwq
        have hlti : (k : Int) < (xs.length : Int) := by omega
        cases hxy : intsEq x y with
        | true =>
          rw [hxy, Bool.true_and] at Hst
          obtain rfl : x = y := by simpa [intsEq] using hxy
          clear hxy
          go_wp2_with fail
          go_region
          all_goals
            go_wp2_with fail
            go_roundw
            case rel => exact ⟨k + 1, r + 1, by omega, by go_num, by rw [Hwq.out]; rfl, He.out.trans Hst.out⟩
            case measure => simp [intOf]; omega
        | false =>
          rw [hxy, Bool.false_and] at Hst
          have hne : ¬ x = y := by simpa [intsEq] using hxy
          clear hxy
          have Hfin := Lib.hid (He.out.trans Hst.out)
          go_wp2_with fail
          go_region
          all_goals
            go_wp2_with fail
            go_ret
            refine ⟨ret_bool Hfin.out.symm, ?_⟩
            rw [Hwq.out]
            exact bel_drawN w (r + 1)
      · obtain rfl : k = xs.length := by omega
        have Hfin := Lib.hid (He.out.trans (listEq_end Hnm.out))
        go_wp2
        go_ret
        exact ⟨ret_bool Hfin.out.symm, bel_drawN w r⟩
  · have Hfin := Lib.hid (listEq_len (f := intsEq) hnm)
    have hnmi : ¬ (xs.length : Int) = (ys.length : Int) := by omega
    go_enter Tryz.func123, Tryz.ntmps123
    go_wp2
    go_ret
    exact ⟨ret_bool Hfin.out.symm, Below.refl _ _⟩

set_option maxRecDepth 100000 in
set_option maxHeartbeats 4000000 in
theorem reqInts_any (S S' : Nat → Prop) (p q : Option Addr) (n m c d : Nat) (xs ys : List Int) (w : World) (hx : SliceS 1 IntU S w [.slice p n c] xs) (hy : SliceS 1 IntU S' w [.slice q m d] ys) :
    Calls Tryz.prog 45 #[.slice p n c, .slice q m d] w fun e w' => e = .returned (.bool (listEq intsEq xs ys)) ∧ Below w.heap.size w w' := by
  have Hx := Lib.hid hx
  have Hy := Lib.hid hy
  obtain ⟨rfl, hlc, hcm⟩ := hx.len
  obtain ⟨rfl, hld, hdm⟩ := hy.len
  unfold maxLen at hcm hdm
  clear hx hy
  by_cases hnm : xs.length = ys.length
  · have Hnm := Lib.hid hnm
    rw [← hnm] at hld ⊢
    clear hnm
    go_enter Tryz.func45, Tryz.ntmps45
    go_wp2_with fail
    go_loopw [5] (fun i wr => ∃ k r : Nat, k ≤ xs.length ∧ i = .int .i64 k ∧ wr = w.drewN r ∧ listEq intsEq xs ys = listEq intsEq (xs.drop k) (ys.drop k)) (fun i _ => xs.length - (intOf i).toNat)
    case atStart => exact ⟨0, 0, Nat.zero_le _, rfl, rfl, rfl⟩
    case round =>
      obtain ⟨k, r, hk, rfl, rfl, he⟩ := hrel
      have He := Lib.hid he
      clear he
      by_cases hlt : k < xs.length
      · have hlt' : k < ys.length := by rw [← Hnm.out]; exact hlt
        obtain ⟨b, o, rfl, _, hbl, c0⟩ := int_at Hx.out hlt
        obtain ⟨b', o', rfl, _, hbl', e0⟩ := int_at Hy.out hlt'
        have c0 : (w.drewN r).cell? _ = _ := c0
        have e0 : (w.drewN r).cell? _ = _ := e0
        have Hst := Lib.hid (listEq_step (f := intsEq) hlt hlt')
        clear hbl hbl'
        generalize hX : xs[k] = x at *
        generalize hY : ys[k] = y at *
        clear hX hY hlt'
        obtain ⟨wq, hwq⟩ : ∃ wq, wq = w.drewN r := ⟨_, rfl⟩
        rw [← hwq] at c0 e0 ⊢
        have Hwq := Lib.hid hwq
        clear hwq
        have hlti : (k : Int) < (xs.length : Int) := by omega
        cases hxy : intsEq x y with
        | true =>
          rw [hxy, Bool.true_and] at Hst
          obtain rfl : x = y := by simpa [intsEq] using hxy
          clear hxy
          go_wp2_with fail
          go_region
          all_goals
            go_wp2_with fail
            go_roundw
            case rel => exact ⟨k + 1, r + 1, by omega, by go_num, by rw [Hwq.out]; rfl, He.out.trans Hst.out⟩
            case measure => simp [intOf]; omega
        | false =>
          rw [hxy, Bool.false_and] at Hst
          have hne : ¬ x = y := by simpa [intsEq] using hxy
          clear hxy
          have Hfin := Lib.hid (He.out.trans Hst.out)
          go_wp2_with fail
          go_region
          all_goals
            go_wp2_with fail
            go_ret
            refine ⟨ret_bool Hfin.out.symm, ?_⟩
            rw [Hwq.out]
            exact bel_drawN w (r + 1)
      · obtain rfl : k = xs.length := by omega
        have Hfin := Lib.hid (He.out.trans (listEq_end Hnm.out))
        go_wp2
        go_ret
        exact ⟨ret_bool Hfin.out.symm, bel_drawN w r⟩
  · have Hfin := Lib.hid (listEq_len (f := intsEq) hnm)
    have hnmi : ¬ (xs.length : Int) = (ys.length : Int) := by omega
    go_enter Tryz.func45, Tryz.ntmps45
    go_wp2
    go_ret
    exact ⟨ret_bool Hfin.out.symm, Below.refl _ _⟩

end Go.Proofs.YtacnmdlefonjmaaGreat

/-
  Messages of clients (layer 6): values compared.
-/
namespace Go.Proofs.YtacnmdlefonjmaaGreat
open Go.RowKit
set_option linter.unusedVariables false
set_option linter.unusedSimpArgs false

set_option maxRecDepth 100000 in
theorem alike_any (x y : CeV) (p q : Option Addr) (c d : Nat) (w : World) (hx : BytesIn w p x.bytes) (hy : BytesIn w q y.bytes) :
    Calls Tryz.prog 125 #[.agg #[.bool x.null, .slice p x.bytes.length c], .agg #[.bool y.null, .slice q y.bytes.length d]] w fun e w' => e = .returned (.bool (ceEq x y)) ∧ Below w.heap.size w w' := by
  have hbel : Below w.heap.size w ((w.alloc (.cells #[.bool x.null, .slice p x.bytes.length c] 115)).alloc (.cells #[.bool y.null, .slice q y.bytes.length d] 115)) := ((Below.refl _ _).alloc (Nat.le_refl _) _).alloc (by simp) _
  have Hbel := Lib.hid hbel
  have He := Lib.hid (equal_any p q x.bytes y.bytes c d _ (hx.below hbel) (hy.below hbel))
  have Hv : Hid (ceEq x y = ((x.null == y.null) && (x.bytes == y.bytes))) := Lib.hid rfl
  generalize ceEq x y = r at *
  obtain ⟨xn, xb⟩ := x
  obtain ⟨yn, yb⟩ := y
  dsimp only at *
  generalize (xb == yb) = eb at *
  clear hx hy hbel
  cases hn : (xn == yn) with
  | true =>
    rw [hn] at Hv
    go_enter Tryz.func125, Tryz.ntmps125
    go_wp2_with fail
    refine He.out.mono ?_
    rintro e w2 ⟨rfl, rfl⟩
    go_wp2_with fail
    go_ret
    exact ⟨ret_bool (by rw [Hv.out]; rfl), Hbel.out⟩
  | false =>
    rw [hn] at Hv
    go_enter Tryz.func125, Tryz.ntmps125
    go_wp2_with fail
    go_ret
    exact ⟨ret_bool (by rw [Hv.out]; rfl), Hbel.out⟩

set_option maxRecDepth 100000 in
set_option maxHeartbeats 4000000 in
theorem eqCells_any (S S' : Nat → Prop) (p q : Option Addr) (n m c d : Nat) (xs ys : List CeV) (w : World) (hx : SliceS 2 CeS S w [.slice p n c] xs) (hy : SliceS 2 CeS S' w [.slice q m d] ys) :
    Calls Tryz.prog 124 #[.slice p n c, .slice q m d, .func (.func 125) #[] #[]] w fun e w' => e = .returned (.bool (listEq ceEq xs ys)) ∧ Below w.heap.size w w' := by
  have Hx := Lib.hid hx
  have Hy := Lib.hid hy
  obtain ⟨rfl, hlc, hcm⟩ := hx.len
  obtain ⟨rfl, hld, hdm⟩ := hy.len
  unfold maxLen at hcm hdm
  clear hx hy
  by_cases hnm : xs.length = ys.length
  · have Hnm := Lib.hid hnm
    rw [← hnm] at hld ⊢
    clear hnm
    go_enter Tryz.func124, Tryz.ntmps124
    go_wp2_with fail
    go_loopw [17] (fun i wr => ∃ k : Nat, k ≤ xs.length ∧ i = .int .i64 k ∧ Below w.heap.size w wr ∧ listEq ceEq xs ys = listEq ceEq (xs.drop k) (ys.drop k)) (fun i _ => xs.length - (intOf i).toNat)
    case atStart => exact ⟨0, Nat.zero_le _, rfl, Below.refl _ _, rfl⟩
    case round =>
      obtain ⟨k, hk, rfl, hb, he⟩ := hrel
      have hsz := hb.size
      have He := Lib.hid he
      have Hb := Lib.hid hb
      clear he
      by_cases hlt : k < xs.length
      · have hlt' : k < ys.length := by rw [← Hnm.out]; exact hlt
        obtain ⟨b, o, px, dx, rfl, _, hbl, c0, c1, hqx⟩ := ce_at (Hx.out.below CeS.still hb) hlt
        obtain ⟨b', o', py, dy, rfl, _, hbl', e0, e1, hqy⟩ := ce_at (Hy.out.below CeS.still hb) hlt'
        have Hst := Lib.hid (listEq_step (f := ceEq) hlt hlt')
        have Hqx := Lib.hid hqx.parts.2.2.2
        have Hqy := Lib.hid hqy.parts.2.2.2
        clear hb hqx hqy
        generalize hX : xs[k] = x at *
        generalize hY : ys[k] = y at *
        clear hX hY hlt'
        have hlti : (k : Int) < (xs.length : Int) := by omega
        have hlti' : (k : Int) < (ys.length : Int) := by rw [← Hnm.out]; omega
        go_upto_region 6 with (fail)
        have hal1 : Below wr.heap.size wr (wr.alloc (.cells #[.bool x.null, .slice px x.bytes.length dx] 115)) := (Below.refl _ _).alloc (Nat.le_refl _) _
        have f0 : (wr.alloc (.cells #[.bool x.null, .slice px x.bytes.length dx] 115)).cell? ⟨b', o' + k * 2, none⟩ = _ := (hal1.cell (p := ⟨b', o' + k * 2, none⟩) hbl').trans e0
        have f1 : (wr.alloc (.cells #[.bool x.null, .slice px x.bytes.length dx] 115)).cell? ⟨b', o' + k * 2 + 1, none⟩ = _ := (hal1.cell (p := ⟨b', o' + k * 2 + 1, none⟩) hbl').trans e1
        have Hk1 := Lib.hid (Blk.new wr 115 #[.bool x.null, .slice px x.bytes.length dx])
        have hk1 := Hk1.out.lt
        have HB1 := Lib.hid (Hb.out.trans (hal1.mono hsz))
        have Hqx1 := Lib.hid (Hqx.out.below hal1)
        have Hqy1 := Lib.hid (Hqy.out.below hal1)
        clear hal1 c0 c1 e0 e1 hbl hbl' Hqx Hqy Hb
        generalize wr.alloc (.cells #[.bool x.null, .slice px x.bytes.length dx] 115) = wa at *
        generalize wr.heap.size = g1 at *
        go_upto_region 7 with (fail)
        have hal2 : Below wa.heap.size wa (wa.alloc (.cells #[.bool y.null, .slice py y.bytes.length dy] 115)) := (Below.refl _ _).alloc (Nat.le_refl _) _
        have Hk2 := Lib.hid (Blk.new wa 115 #[.bool y.null, .slice py y.bytes.length dy])
        have d1 := (Hk1.out.below hal2 hk1).cell
        have d2 := Hk2.out.cell
        have HB2 := Lib.hid (HB1.out.trans (hal2.mono HB1.out.size))
        have Hcl := Lib.hid (alike_any x y px py dx dy _ (Hqx1.out.below hal2) (Hqy1.out.below hal2))
        clear hal2 f0 f1 Hqx1 Hqy1
        generalize wa.alloc (.cells #[.bool y.null, .slice py y.bytes.length dy] 115) = wb at *
        generalize wa.heap.size = g2 at *
        go_wp2_with fail
        refine Hcl.out.mono ?_
        rintro e w3 ⟨rfl, hb3⟩
        have HB3 := Lib.hid (HB2.out.trans (hb3.mono HB2.out.size))
        clear hb3 d1 d2
        cases hxy : ceEq x y with
        | true =>
          rw [hxy, Bool.true_and] at Hst
          clear hxy
          go_wp2_with fail
          go_roundw
          case rel => exact ⟨k + 1, by omega, by go_num, HB3.out, He.out.trans Hst.out⟩
          case measure => simp [intOf]; omega
        | false =>
          rw [hxy, Bool.false_and] at Hst
          clear hxy
          have Hfin := Lib.hid (He.out.trans Hst.out)
          go_wp2_with fail
          go_ret
          exact ⟨ret_bool Hfin.out.symm, HB3.out⟩
      · obtain rfl : k = xs.length := by omega
        have Hfin := Lib.hid (He.out.trans (listEq_end Hnm.out))
        go_wp2
        go_ret
        exact ⟨ret_bool Hfin.out.symm, Hb.out⟩
  · have Hfin := Lib.hid (listEq_len (f := ceEq) hnm)
    have hnmi : ¬ (xs.length : Int) = (ys.length : Int) := by omega
    go_enter Tryz.func124, Tryz.ntmps124
    go_wp2
    go_ret
    exact ⟨ret_bool Hfin.out.symm, Below.refl _ _⟩

set_option maxRecDepth 100000 in
set_option maxHeartbeats 4000000 in
theorem reqCells_any (S S' : Nat → Prop) (p q : Option Addr) (n m c d : Nat) (xs ys : List CeV) (w : World) (hx : SliceS 2 CeS S w [.slice p n c] xs) (hy : SliceS 2 CeS S' w [.slice q m d] ys) :
    Calls Tryz.prog 46 #[.slice p n c, .slice q m d] w fun e w' => e = .returned (.bool (listEq ceEq xs ys)) ∧ Below w.heap.size w w' := by
  have Hx := Lib.hid hx
  have Hy := Lib.hid hy
  obtain ⟨rfl, hlc, hcm⟩ := hx.len
  obtain ⟨rfl, hld, hdm⟩ := hy.len
  unfold maxLen at hcm hdm
  clear hx hy
  by_cases hnm : xs.length = ys.length
  · have Hnm := Lib.hid hnm
    rw [← hnm] at hld ⊢
    clear hnm
    go_enter Tryz.func46, Tryz.ntmps46
    go_wp2_with fail
    go_loopw [5] (fun i wr => ∃ k r : Nat, k ≤ xs.length ∧ i = .int .i64 k ∧ wr = w.drewN r ∧ listEq ceEq xs ys = listEq ceEq (xs.drop k) (ys.drop k)) (fun i _ => xs.length - (intOf i).toNat)
    case atStart => exact ⟨0, 0, Nat.zero_le _, rfl, rfl, rfl⟩
    case round =>
      obtain ⟨k, r, hk, rfl, rfl, he⟩ := hrel
      have He := Lib.hid he
      clear he
      by_cases hlt : k < xs.length
      · have hlt' : k < ys.length := by rw [← Hnm.out]; exact hlt
        obtain ⟨b, o, px, dx, rfl, _, hbl, c0, c1, hqx⟩ := ce_at (Hx.out.below CeS.still (bel_drawN w r)) hlt
        obtain ⟨b', o', py, dy, rfl, _, hbl', e0, e1, hqy⟩ := ce_at (Hy.out.below CeS.still (bel_drawN w r)) hlt'
        have Hst := Lib.hid (listEq_step (f := ceEq) hlt hlt')
        have Hqx := Lib.hid hqx.parts.2.2.2
        have Hqy := Lib.hid hqy.parts.2.2.2
        clear hbl hbl' hqx hqy
        generalize hX : xs[k] = x at *
        generalize hY : ys[k] = y at *
        clear hX hY hlt'
        obtain ⟨wq, hwq⟩ : ∃ wq, wq = w.drewN r := ⟨_, rfl⟩
        rw [← hwq] at c0 e0 c1 e1 Hqx Hqy ⊢
        have Hwq := Lib.hid hwq
        clear hwq
        have hlti : (k : Int) < (xs.length : Int) := by omega
        have hlti' : (k : Int) < (ys.length : Int) := by rw [← Hnm.out]; omega
        have hv1 : ∀ r, (convert 32 9 (.slice px x.bytes.length dx)).run Tryz.prog (wq.drewN r) = .ok (.string (strOf x.bytes)) (wq.drewN r) := fun r => (Hqx.out.drewN r).convert dx _ _ _ Tryz.underlying32 Tryz.underlying5 Tryz.underlying9
        have hv2 : ∀ r, (convert 32 9 (.slice py y.bytes.length dy)).run Tryz.prog (wq.drewN r) = .ok (.string (strOf y.bytes)) (wq.drewN r) := fun r => (Hqy.out.drewN r).convert dy _ _ _ Tryz.underlying32 Tryz.underlying5 Tryz.underlying9
        have hse : ((strOf x.bytes).toList == (strOf y.bytes).toList) = (x.bytes == y.bytes) := by rw [strOf_toList, strOf_toList]
        have hce : ceEq x y = ((x.null == y.null) && (x.bytes == y.bytes)) := rfl
        rw [← hse] at hce
        clear hse
        cases hn : (x.null == y.null) with
        | false =>
          rw [hn, Bool.false_and] at hce
          rw [hce, Bool.false_and] at Hst
          have Hfin := Lib.hid (He.out.trans Hst.out)
          clear hce
          go_wp2_with fail
          go_quiet (fail)
          go_wp2_with fail
          go_ret
          refine ⟨ret_bool Hfin.out.symm, ?_⟩
          rw [Hwq.out, World.drewN_drewN]
          exact bel_drawN w _
        | true =>
          rw [hn, Bool.true_and] at hce
          cases hs : ((strOf x.bytes).toList == (strOf y.bytes).toList) with
          | false =>
            rw [hs] at hce
            rw [hce, Bool.false_and] at Hst
            have Hfin := Lib.hid (He.out.trans Hst.out)
            clear hce
            go_wp2_with fail
            go_quiet (fail)
            go_wp2_with fail
            go_ret
            refine ⟨ret_bool Hfin.out.symm, ?_⟩
            rw [Hwq.out, World.drewN_drewN]
            exact bel_drawN w _
          | true =>
            rw [hs] at hce
            rw [hce, Bool.true_and] at Hst
            clear hce
            go_wp2_with fail
            go_quiet (fail)
            go_wp2_with fail
            go_roundw
            case rel => exact ⟨k + 1, r + nq, by omega, by go_num, by rw [Hwq.out, World.drewN_drewN], He.out.trans Hst.out⟩
            case measure => simp [intOf]; omega
      · obtain rfl : k = xs.length := by omega
        have Hfin := Lib.hid (He.out.trans (listEq_end Hnm.out))
        go_wp2
        go_ret
        exact ⟨ret_bool Hfin.out.symm, bel_drawN w r⟩
  · have Hfin := Lib.hid (listEq_len (f := ceEq) hnm)
    have hnmi : ¬ (xs.length : Int) = (ys.length : Int) := by omega
    go_enter Tryz.func46, Tryz.ntmps46
    go_wp2
    go_ret
    exact ⟨ret_bool Hfin.out.symm, Below.refl _ _⟩

end Go.Proofs.YtacnmdlefonjmaaGreat

/-
  Messages of clients (layer 6): texts and values that may be; both.
-/
namespace Go.Proofs.YtacnmdlefonjmaaGreat
open Go.RowKit
set_option linter.unusedVariables false
set_option linter.unusedSimpArgs false

def dirty (s : ByteArray) : Bool := !cleanB s
theorem dirty_any (s : ByteArray) (w : World) : Calls Tryz.prog 121 #[.string s] w fun e w' => e = .returned (.bool (dirty s)) ∧ Below w.heap.size w w' := by
  have Hd : Hid (dirty s = !cleanB s) := Lib.hid rfl
  have Hc := Lib.hid (clean_any s w)
  generalize dirty s = d at *
  generalize cleanB s = c at *
  go_enter Tryz.func121, Tryz.ntmps121
  go_wp2_with fail
  refine Hc.out.mono ?_
  rintro e w1 ⟨rfl, rfl⟩
  go_wp2
  go_ret
  exact ⟨ret_bool Hd.out.symm, Below.refl _ _⟩

theorem cleanAll_any (S : Nat → Prop) (p : Option Addr) (n c : Nat) (L : List ByteArray) (w : World) (h : SliceS 1 StrU S w [.slice p n c] L) :
    Calls Tryz.prog 106 #[.slice p n c] w fun e w' => e = .returned (.bool (!L.any dirty)) ∧ Below w.heap.size w w' := by
  have Hc := Lib.hid (containsStr 121 dirty S p n c L w h (enter_of Tryz.func121 (by kernel_rfl) rfl) (fun x w0 _ => dirty_any x w0))
  generalize L.any dirty = d at *
  clear h
  go_enter Tryz.func106, Tryz.ntmps106
  go_wp2_with fail
  refine Hc.out.mono ?_
  rintro e w1 ⟨rfl, hb⟩
  have Hb := Lib.hid hb
  clear hb
  go_wp2
  go_ret
  exact ⟨rfl, Hb.out⟩

theorem wrongC_any (x : CeV) (q : Option Addr) (d : Nat) (w : World) : Calls Tryz.prog 119 #[.agg #[.bool x.null, .slice q x.bytes.length d]] w fun e w' => e = .returned (.bool (wrongC x)) ∧ Below w.heap.size w w' := by
  have Hb := Lib.hid ((Below.refl w.heap.size w).alloc (Nat.le_refl _) (.cells #[.bool x.null, .slice q x.bytes.length d] 115))
  have Hv : Hid (wrongC x = ((x.null && decide ((0 : Int) < (x.bytes.length : Int))) || decide ((1048576 : Int) < (x.bytes.length : Int)))) := Lib.hid (by
    unfold wrongC
    have h1 : decide (0 < x.bytes.length) = decide ((0 : Int) < (x.bytes.length : Int)) := decide_eq_decide.2 (by omega)
    have h2 : decide (1048576 < x.bytes.length) = decide ((1048576 : Int) < (x.bytes.length : Int)) := decide_eq_decide.2 (by omega)
    rw [h1, h2])
  generalize wrongC x = v at *
  obtain ⟨xn, xb⟩ := x
  dsimp only at *
  generalize xb.length = m at *
  cases xn with
  | false =>
    go_enter Tryz.func119, Tryz.ntmps119
    go_wp2
    go_ret
    exact ⟨ret_bool (by rw [Hv.out]; simp), Hb.out⟩
  | true =>
    cases m with
    | zero =>
      go_enter Tryz.func119, Tryz.ntmps119
      go_wp2
      go_ret
      exact ⟨ret_bool (by rw [Hv.out]; simp), Hb.out⟩
    | succ m =>
      have h0 : (0 : Int) < ((m + 1 : Nat) : Int) := by omega
      rw [decide_eq_true h0] at Hv
      obtain ⟨k, hk⟩ : ∃ k : Int, ((m + 1 : Nat) : Int) = k := ⟨_, rfl⟩
      rw [hk] at h0
      have Hk := Lib.hid hk
      go_enter Tryz.func119, Tryz.ntmps119
      clear hk
      go_wp2
      all_goals
        go_ret
        exact ⟨ret_bool (by rw [Hv.out]; simp), Hb.out⟩

theorem cells_any (S : Nat → Prop) (p : Option Addr) (n c : Nat) (l : List CeV) (w : World) (h : SliceS 2 CeS S w [.slice p n c] l) :
    Calls Tryz.prog 104 #[.slice p n c] w fun e w' => e = .returned (.bool (valuesV l)) ∧ Below w.heap.size w w' := by
  obtain ⟨rfl, hlc, hcm⟩ := h.len
  unfold maxLen at hcm
  have Hc := Lib.hid (containsCe 119 wrongC S p _ c l w h (enter_of Tryz.func119 (by kernel_rfl) rfl) (fun x q d w0 _ => wrongC_any x q d w0))
  have Hv : Hid (valuesV l = (decide ((l.length : Int) ≤ 65535) && !l.any wrongC)) := Lib.hid (by unfold valuesV; congr 1; simp only [decide_eq_decide]; omega)
  generalize valuesV l = v at *
  generalize l.any wrongC = d at *
  clear h
  by_cases hlen : (l.length : Int) ≤ 65535
  · rw [decide_eq_true hlen] at Hv
    go_enter Tryz.func104, Tryz.ntmps104
    go_wp2_with fail
    refine Hc.out.mono ?_
    rintro e w1 ⟨rfl, hb⟩
    have Hb := Lib.hid hb
    clear hb
    go_wp2
    go_ret
    exact ⟨ret_bool (by rw [Hv.out]; rfl), Hb.out⟩
  · rw [decide_eq_false hlen] at Hv
    go_enter Tryz.func104, Tryz.ntmps104
    go_wp2
    go_ret
    exact ⟨ret_bool (by rw [Hv.out]; rfl), Below.refl _ _⟩

set_option maxRecDepth 100000 in
set_option maxHeartbeats 4000000 in
theorem rvalues_any (S : Nat → Prop) (p : Option Addr) (n c : Nat) (l : List CeV) (w : World) (h : SliceS 2 CeS S w [.slice p n c] l) :
    Calls Tryz.prog 82 #[.slice p n c] w fun e w' => e = .returned (.bool (valuesV l)) ∧ w = w' := by
  obtain ⟨rfl, hlc, hcm⟩ := h.len
  unfold maxLen at hcm
  have H := Lib.hid h
  have Hv : Hid (valuesV l = (decide ((l.length : Int) ≤ 65535) && !l.any wrongC)) := Lib.hid (by unfold valuesV; congr 1; simp only [decide_eq_decide]; omega)
  generalize valuesV l = v at *
  clear h
  by_cases hlen : (l.length : Int) ≤ 65535
  · rw [decide_eq_true hlen, Bool.true_and] at Hv
    go_enter Tryz.func82, Tryz.ntmps82
    go_wp2_with fail
    go_loopw [3] (fun i wr => ∃ k : Nat, k ≤ l.length ∧ i = .int .i64 k ∧ (∀ j (hj : j < l.length), j < k → wrongC l[j] = false) ∧ wr = w) (fun i _ => l.length - (intOf i).toNat)
    case atStart => exact ⟨0, Nat.zero_le _, rfl, (fun j _ h => by omega), rfl⟩
    case round =>
      obtain ⟨k, hk, rfl, hall, rfl⟩ := hrel
      have Hall := Lib.hid hall
      clear hall
      by_cases hltk : k < l.length
      · obtain ⟨b, o, q, d, rfl, hS, hbl, c0, c1, hq⟩ := ce_at H.out hltk
        have Hbad := Lib.hid (any_at (P := wrongC) hltk)
        have Hgood := Lib.hid (fun h : wrongC l[k] = false => (fun j (hj : j < l.length) (hjk : j < k + 1) => by
          by_cases e : j = k
          · subst e; exact h
          · exact Hall.out j hj (by omega) : ∀ j (hj : j < l.length), j < k + 1 → wrongC l[j] = false))
        have Hx : Hid (wrongC l[k] = ((l[k].null && decide ((0 : Int) < (l[k].bytes.length : Int))) || decide ((1048576 : Int) < (l[k].bytes.length : Int)))) := Lib.hid (by
          unfold wrongC
          have h1 : decide (0 < l[k].bytes.length) = decide ((0 : Int) < (l[k].bytes.length : Int)) := decide_eq_decide.2 (by omega)
          have h2 : decide (1048576 < l[k].bytes.length) = decide ((1048576 : Int) < (l[k].bytes.length : Int)) := decide_eq_decide.2 (by omega)
          rw [h1, h2])
        clear hS hq
        generalize wrongC l[k] = uf at *
        generalize l[k] = x at *
        obtain ⟨xn, xb⟩ := x
        dsimp only at *
        generalize xb.length = m at *
        have hlti : (k : Int) < (l.length : Int) := by omega
        cases huf : uf with
        | true =>
          have Hf := Lib.hid (Hbad.out huf)
          have Huf := Lib.hid huf
          have hx := Hx.out
          rw [huf] at hx
          clear huf
          cases xn with
          | false =>
            have h1 : (1048576 : Int) < (m : Int) := by simpa using hx.symm
            clear hx
            go_wp2_with fail
            go_ret
            exact ⟨ret_bool (by rw [Hv.out, Hf.out]; rfl), rfl⟩
          | true =>
            clear hx
            cases m with
            | zero =>
              exfalso
              have := Hx.out
              rw [show uf = true from Huf.out] at this
              simp at this
            | succ m =>
              go_wp2_with fail
              all_goals
                go_ret
                exact ⟨ret_bool (by rw [Hv.out, Hf.out]; rfl), rfl⟩
        | false =>
          have Hf := Lib.hid (Hgood.out huf)
          have hx := Hx.out
          rw [huf] at hx
          clear huf
          have h1 : ¬ (1048576 : Int) < (m : Int) := by
            intro e
            rw [decide_eq_true e] at hx
            simp at hx
          cases xn with
          | false =>
            clear hx
            go_wp2_with fail
            go_roundw
            case rel => exact ⟨k + 1, by omega, by go_num, Hf.out, by first | rfl | trivial⟩
            case measure => simp [intOf]; omega
          | true =>
            have h0 : ¬ (0 : Int) < (m : Int) := by
              intro e
              rw [decide_eq_true e] at hx
              simp at hx
            obtain rfl : m = 0 := by omega
            clear hx
            go_wp2_with fail
            go_roundw
            case rel => exact ⟨k + 1, by omega, by go_num, Hf.out, by first | rfl | trivial⟩
            case measure => simp [intOf]; omega
      · obtain rfl : k = l.length := by omega
        have Hf := Lib.hid (notAny_all (P := wrongC) (fun j hj => Hall.out j hj hj))
        clear Hall
        go_wp2_with fail
        go_ret
        exact ⟨ret_bool (by rw [Hv.out, Hf.out]; rfl), rfl⟩
  · rw [decide_eq_false hlen] at Hv
    go_enter Tryz.func82, Tryz.ntmps82
    go_wp2_with fail
    go_ret
    exact ⟨ret_bool (by rw [Hv.out]; rfl), rfl⟩

end Go.Proofs.YtacnmdlefonjmaaGreat

/-
  '==' of two arrays of three texts.
-/
namespace Go.Proofs.YtacnmdlefonjmaaGreat
open Go.RowKit
set_option linter.unusedVariables false
set_option linter.unusedSimpArgs false

set_option maxRecDepth 10000 in
theorem eql_str3 (a0 a1 a2 b0 b1 b2 : ByteArray) (w : World) :
    (binOp .eql 156 (.agg #[.string a0, .string a1, .string a2]) (.agg #[.string b0, .string b1, .string b2])).run Tryz.prog w = .ok (.bool ((a0.toList == b0.toList) && ((a1.toList == b1.toList) && (a2.toList == b2.toList)))) w := by
  have hu : Tryz.prog.underlying 156 = some (.array 3 9) := Tryz.underlying156
  have u2 := Tryz.underlying9
  have a2' := Tryz.isAgg9
  have z2 := Tryz.sizeOf9
  obtain ⟨d, hd⟩ : ∃ d : Nat, 10000 = d + 1 + 1 := ⟨9998, rfl⟩
  rw [run_eql_struct, hd, Op.equalIn]
  clear hd
  simp only [Sem.run_bind, run_underlying hu, Result.andThen_ok]
  rw [z2]
  simp only [Result.andThen_ok, Std.Legacy.Range.forIn_eq_forIn_range', Std.Legacy.Range.size, List.range', List.forIn_cons, List.forIn_nil, Sem.run_bind]
  go_simp
  by_cases h1 : a0.toList = b0.toList <;> by_cases h2 : a1.toList = b1.toList <;> by_cases h3 : a2.toList = b2.toList <;> simp [h1, h2, h3]

end Go.Proofs.YtacnmdlefonjmaaGreat

/-
  Messages of clients (layer 6): whether two are the same; both.
-/
namespace Go.Proofs.YtacnmdlefonjmaaGreat
open Go.RowKit
set_option linter.unusedVariables false
set_option linter.unusedSimpArgs false

/-- Two messages in two blocks. -/
structure Fo2 (w0 w : World) (g1 g2 : Nat) (x y : FoV) (a b : FoP) : Prop where
  b1 : Blk w g1 46 (foCells x a)
  b2 : Blk w g2 46 (foCells y b)
  l1 : FoL (fun _ => True) w x a
  l2 : FoL (fun _ => True) w y b
  bel : Below w0.heap.size w0 w
section
variable {w0 w w' : World} {g1 g2 : Nat} {x y : FoV} {a b : FoP}
theorem Fo2.step (h : Fo2 w0 w g1 g2 x y a b) (hb : Below w.heap.size w w') : Fo2 w0 w' g1 g2 x y a b := ⟨h.b1.below hb h.b1.lt, h.b2.below hb h.b2.lt, h.l1.below hb, h.l2.below hb, h.bel.trans (hb.mono h.bel.size)⟩
theorem Fo2.start {S S' : Nat → Prop} {w : World} (h1 : FoL S w x a) (h2 : FoL S' w y b) :
    Fo2 w ((w.alloc (.cells (foCells x a) 46)).alloc (.cells (foCells y b) 46)) w.heap.size (w.heap.size + 1) x y a b := by
  have hb : Below w.heap.size w ((w.alloc (.cells (foCells x a) 46)).alloc (.cells (foCells y b) 46)) := ((Below.refl _ _).alloc (Nat.le_refl _) _).alloc (by simp) _
  refine ⟨(Blk.new _ _ _).alloc _, ?_, (h1.below hb).any, (h2.below hb).any, hb⟩
  have := Blk.new (w.alloc (.cells (foCells x a) 46)) 46 (foCells y b)
  simpa using this
end

theorem foEq_parts (x y : FoV) : foEq x y = ((x.kind == y.kind) && ((x.what == y.what) && ((x.max == y.max) && (((x.name.toList == y.name.toList) && ((x.portal.toList == y.portal.toList) && (x.text.toList == y.text.toList))) && (listEq intsEq x.oids y.oids && (listEq intsEq x.formats y.formats && (listEq intsEq x.results y.results && listEq ceEq x.params y.params))))))) := by
  unfold foEq headEq
  generalize (x.kind == y.kind) = a1
  generalize (x.what == y.what) = a2
  generalize (x.max == y.max) = a3
  generalize (x.name.toList == y.name.toList) = a4
  generalize (x.portal.toList == y.portal.toList) = a5
  generalize (x.text.toList == y.text.toList) = a6
  cases a1 <;> cases a2 <;> cases a3 <;> cases a4 <;> cases a5 <;> cases a6 <;> rfl

set_option maxRecDepth 100000 in
set_option maxHeartbeats 4000000 in
theorem foSame_any (S S' : Nat → Prop) (x y : FoV) (a b : FoP) (w : World) (h1 : FoL S w x a) (h2 : FoL S' w y b) :
    Calls Tryz.prog 107 #[foArg x a, foArg y b] w fun e w' => e = .returned (.bool (foEq x y)) ∧ Below w.heap.size w w' := by
  have H0 := Lib.hid (Fo2.start h1 h2)
  have Hv := Lib.hid (foEq_parts x y)
  clear h1 h2
  generalize foEq x y = ev at *
  obtain ⟨xk, xw, xn, xp, xt, xo, xf, xr, xc, xm⟩ := x
  obtain ⟨yk, yw, yn, yp, yt, yo, yf, yr, yc, ym⟩ := y
  obtain ⟨apo, aco, apf, acf, apr, acr, app, acp⟩ := a
  obtain ⟨bpo, bco, bpf, bcf, bpr, bcr, bpp, bcp⟩ := b
  unfold foArg
  unfold foCells at H0 ⊢
  dsimp only at *
  have HO := Lib.hid (fun (w1 : World) (H : Fo2 w w1 w.heap.size (w.heap.size + 1) ⟨xk, xw, xn, xp, xt, xo, xf, xr, xc, xm⟩ ⟨yk, yw, yn, yp, yt, yo, yf, yr, yc, ym⟩ ⟨apo, aco, apf, acf, apr, acr, app, acp⟩ ⟨bpo, bco, bpf, bcf, bpr, bcr, bpp, bcp⟩) => eqInts_any _ _ _ _ _ _ _ _ _ _ w1 H.l1.lo H.l2.lo)
  have HF := Lib.hid (fun (w1 : World) (H : Fo2 w w1 w.heap.size (w.heap.size + 1) ⟨xk, xw, xn, xp, xt, xo, xf, xr, xc, xm⟩ ⟨yk, yw, yn, yp, yt, yo, yf, yr, yc, ym⟩ ⟨apo, aco, apf, acf, apr, acr, app, acp⟩ ⟨bpo, bco, bpf, bcf, bpr, bcr, bpp, bcp⟩) => eqInts_any _ _ _ _ _ _ _ _ _ _ w1 H.l1.lf H.l2.lf)
  have HR := Lib.hid (fun (w1 : World) (H : Fo2 w w1 w.heap.size (w.heap.size + 1) ⟨xk, xw, xn, xp, xt, xo, xf, xr, xc, xm⟩ ⟨yk, yw, yn, yp, yt, yo, yf, yr, yc, ym⟩ ⟨apo, aco, apf, acf, apr, acr, app, acp⟩ ⟨bpo, bco, bpf, bcf, bpr, bcr, bpp, bcp⟩) => eqInts_any _ _ _ _ _ _ _ _ _ _ w1 H.l1.lr H.l2.lr)
  have HP := Lib.hid (fun (w1 : World) (H : Fo2 w w1 w.heap.size (w.heap.size + 1) ⟨xk, xw, xn, xp, xt, xo, xf, xr, xc, xm⟩ ⟨yk, yw, yn, yp, yt, yo, yf, yr, yc, ym⟩ ⟨apo, aco, apf, acf, apr, acr, app, acp⟩ ⟨bpo, bco, bpf, bcf, bpr, bcr, bpp, bcp⟩) => eqCells_any _ _ _ _ _ _ _ _ _ _ w1 H.l1.lp H.l2.lp)
  have HC : Hid (∀ w1 : World, Fo2 w w1 w.heap.size (w.heap.size + 1) ⟨xk, xw, xn, xp, xt, xo, xf, xr, xc, xm⟩ ⟨yk, yw, yn, yp, yt, yo, yf, yr, yc, ym⟩ ⟨apo, aco, apf, acf, apr, acr, app, acp⟩ ⟨bpo, bco, bpf, bcf, bpr, bcr, bpp, bcp⟩ → (∀ i, w1.cell? ⟨w.heap.size, i, none⟩ = (#[.int .u8 xk, .int .u8 xw, .string xn, .string xp, .string xt, .slice apo xo.length aco, .slice apf xf.length acf, .slice apr xr.length acr, .slice app xc.length acp, .int .i64 xm] : Array Value)[i]?) ∧ (∀ i, w1.cell? ⟨w.heap.size + 1, i, none⟩ = (#[.int .u8 yk, .int .u8 yw, .string yn, .string yp, .string yt, .slice bpo yo.length bco, .slice bpf yf.length bcf, .slice bpr yr.length bcr, .slice bpp yc.length bcp, .int .i64 ym] : Array Value)[i]?)) := Lib.hid (fun w1 H => ⟨H.b1.cell, H.b2.cell⟩)
  dsimp only at HO HF HR HP
  generalize listEq intsEq xo yo = bo at *
  generalize listEq intsEq xf yf = bf at *
  generalize listEq intsEq xr yr = br at *
  generalize listEq ceEq xc yc = bc at *
  go_enter Tryz.func107, Tryz.ntmps107
  go_upto_region 1 with (fail)
  generalize (w.alloc (.cells #[.int .u8 xk, .int .u8 xw, .string xn, .string xp, .string xt, .slice apo xo.length aco, .slice apf xf.length acf, .slice apr xr.length acr, .slice app xc.length acp, .int .i64 xm] 46)).alloc (.cells #[.int .u8 yk, .int .u8 yw, .string yn, .string yp, .string yt, .slice bpo yo.length bco, .slice bpf yf.length bcf, .slice bpr yr.length bcr, .slice bpp yc.length bcp, .int .i64 ym] 46) = w1 at *
  obtain ⟨hc1, hd1⟩ := HC.out w1 H0.out
  have hq := fun w => eql_str3 xn xp xt yn yp yt w
  generalize ((xn.toList == yn.toList) && ((xp.toList == yp.toList) && (xt.toList == yt.toList))) = tb at *
  go_wp2_with fail
  refine (HO.out _ H0.out).mono ?_
  rintro e wnA ⟨rfl, hb⟩
  have HA := Lib.hid (H0.out.step hb)
  obtain ⟨hcA, hdA⟩ := HC.out wnA HA.out
  clear hb
  clear hc1 hd1
  cases bo with
  | false =>
    go_upto_region 3 with fail
    by_cases hk : xk = yk
    · subst hk
      by_cases hw : xw = yw
      · subst hw
        by_cases hm : xm = ym
        · subst hm
          cases tb with
          | false =>
            go_wp2_with fail
            go_ret
            exact ⟨ret_bool (by rw [Hv.out]; simp), HA.out.bel⟩
          | true =>
            go_wp2_with fail
            go_ret
            exact ⟨ret_bool (by rw [Hv.out]; simp), HA.out.bel⟩
        · have hmb : (xm == ym) = false := by simpa using hm
          rw [hmb] at Hv
          go_wp2_with fail
          go_ret
          exact ⟨ret_bool (by rw [Hv.out]; simp), HA.out.bel⟩
      · have hwb : (xw == yw) = false := by simpa using hw
        rw [hwb] at Hv
        go_wp2_with fail
        go_ret
        exact ⟨ret_bool (by rw [Hv.out]; simp), HA.out.bel⟩
    · have hkb : (xk == yk) = false := by simpa using hk
      rw [hkb] at Hv
      go_wp2_with fail
      go_ret
      exact ⟨ret_bool (by rw [Hv.out]; simp), HA.out.bel⟩
  | true =>
    go_wp2_with fail
    refine (HF.out _ HA.out).mono ?_
    rintro e wnB ⟨rfl, hb⟩
    have HB := Lib.hid (HA.out.step hb)
    obtain ⟨hcB, hdB⟩ := HC.out wnB HB.out
    clear hb
    clear hcA hdA
    cases bf with
    | false =>
      go_upto_region 3 with fail
      by_cases hk : xk = yk
      · subst hk
        by_cases hw : xw = yw
        · subst hw
          by_cases hm : xm = ym
          · subst hm
            cases tb with
            | false =>
              go_wp2_with fail
              go_ret
              exact ⟨ret_bool (by rw [Hv.out]; simp), HB.out.bel⟩
            | true =>
              go_wp2_with fail
              go_ret
              exact ⟨ret_bool (by rw [Hv.out]; simp), HB.out.bel⟩
          · have hmb : (xm == ym) = false := by simpa using hm
            rw [hmb] at Hv
            go_wp2_with fail
            go_ret
            exact ⟨ret_bool (by rw [Hv.out]; simp), HB.out.bel⟩
        · have hwb : (xw == yw) = false := by simpa using hw
          rw [hwb] at Hv
          go_wp2_with fail
          go_ret
          exact ⟨ret_bool (by rw [Hv.out]; simp), HB.out.bel⟩
      · have hkb : (xk == yk) = false := by simpa using hk
        rw [hkb] at Hv
        go_wp2_with fail
        go_ret
        exact ⟨ret_bool (by rw [Hv.out]; simp), HB.out.bel⟩
    | true =>
      go_wp2_with fail
      refine (HR.out _ HB.out).mono ?_
      rintro e wnD ⟨rfl, hb⟩
      have HD := Lib.hid (HB.out.step hb)
      obtain ⟨hcD, hdD⟩ := HC.out wnD HD.out
      clear hb
      clear hcB hdB
      cases br with
      | false =>
        go_upto_region 3 with fail
        by_cases hk : xk = yk
        · subst hk
          by_cases hw : xw = yw
          · subst hw
            by_cases hm : xm = ym
            · subst hm
              cases tb with
              | false =>
                go_wp2_with fail
                go_ret
                exact ⟨ret_bool (by rw [Hv.out]; simp), HD.out.bel⟩
              | true =>
                go_wp2_with fail
                go_ret
                exact ⟨ret_bool (by rw [Hv.out]; simp), HD.out.bel⟩
            · have hmb : (xm == ym) = false := by simpa using hm
              rw [hmb] at Hv
              go_wp2_with fail
              go_ret
              exact ⟨ret_bool (by rw [Hv.out]; simp), HD.out.bel⟩
          · have hwb : (xw == yw) = false := by simpa using hw
            rw [hwb] at Hv
            go_wp2_with fail
            go_ret
            exact ⟨ret_bool (by rw [Hv.out]; simp), HD.out.bel⟩
        · have hkb : (xk == yk) = false := by simpa using hk
          rw [hkb] at Hv
          go_wp2_with fail
          go_ret
          exact ⟨ret_bool (by rw [Hv.out]; simp), HD.out.bel⟩
      | true =>
        go_upto_region 3 with fail
        by_cases hk : xk = yk
        · subst hk
          by_cases hw : xw = yw
          · subst hw
            by_cases hm : xm = ym
            · subst hm
              cases tb with
              | false =>
                go_wp2_with fail
                go_ret
                exact ⟨ret_bool (by rw [Hv.out]; simp), HD.out.bel⟩
              | true =>
                go_wp2_with fail
                refine (HP.out _ HD.out).mono ?_
                rintro e wn9 ⟨rfl, hb⟩
                have H9 := Lib.hid (HD.out.step hb)
                obtain ⟨hc9, hd9⟩ := HC.out wn9 H9.out
                clear hb
                go_wp2_with fail
                go_ret
                exact ⟨ret_bool (by rw [Hv.out]; simp), H9.out.bel⟩
            · have hmb : (xm == ym) = false := by simpa using hm
              rw [hmb] at Hv
              go_wp2_with fail
              go_ret
              exact ⟨ret_bool (by rw [Hv.out]; simp), HD.out.bel⟩
          · have hwb : (xw == yw) = false := by simpa using hw
            rw [hwb] at Hv
            go_wp2_with fail
            go_ret
            exact ⟨ret_bool (by rw [Hv.out]; simp), HD.out.bel⟩
        · have hkb : (xk == yk) = false := by simpa using hk
          rw [hkb] at Hv
          go_wp2_with fail
          go_ret
          exact ⟨ret_bool (by rw [Hv.out]; simp), HD.out.bel⟩

set_option maxRecDepth 100000 in
set_option maxHeartbeats 4000000 in
theorem rfoSame_any (S S' : Nat → Prop) (x y : FoV) (a b : FoP) (w : World) (h1 : FoL S w x a) (h2 : FoL S' w y b) :
    Calls Tryz.prog 27 #[foArg x a, foArg y b] w fun e w' => e = .returned (.bool (foEq x y)) ∧ Below w.heap.size w w' := by
  have H0 := Lib.hid (Fo2.start h1 h2)
  have Hv := Lib.hid (foEq_parts x y)
  clear h1 h2
  generalize foEq x y = ev at *
  obtain ⟨xk, xw, xn, xp, xt, xo, xf, xr, xc, xm⟩ := x
  obtain ⟨yk, yw, yn, yp, yt, yo, yf, yr, yc, ym⟩ := y
  obtain ⟨apo, aco, apf, acf, apr, acr, app, acp⟩ := a
  obtain ⟨bpo, bco, bpf, bcf, bpr, bcr, bpp, bcp⟩ := b
  unfold foArg
  unfold foCells at H0 ⊢
  dsimp only at *
  have HO := Lib.hid (fun (w1 : World) (H : Fo2 w w1 w.heap.size (w.heap.size + 1) ⟨xk, xw, xn, xp, xt, xo, xf, xr, xc, xm⟩ ⟨yk, yw, yn, yp, yt, yo, yf, yr, yc, ym⟩ ⟨apo, aco, apf, acf, apr, acr, app, acp⟩ ⟨bpo, bco, bpf, bcf, bpr, bcr, bpp, bcp⟩) => reqInts_any _ _ _ _ _ _ _ _ _ _ w1 H.l1.lo H.l2.lo)
  have HF := Lib.hid (fun (w1 : World) (H : Fo2 w w1 w.heap.size (w.heap.size + 1) ⟨xk, xw, xn, xp, xt, xo, xf, xr, xc, xm⟩ ⟨yk, yw, yn, yp, yt, yo, yf, yr, yc, ym⟩ ⟨apo, aco, apf, acf, apr, acr, app, acp⟩ ⟨bpo, bco, bpf, bcf, bpr, bcr, bpp, bcp⟩) => reqInts_any _ _ _ _ _ _ _ _ _ _ w1 H.l1.lf H.l2.lf)
  have HR := Lib.hid (fun (w1 : World) (H : Fo2 w w1 w.heap.size (w.heap.size + 1) ⟨xk, xw, xn, xp, xt, xo, xf, xr, xc, xm⟩ ⟨yk, yw, yn, yp, yt, yo, yf, yr, yc, ym⟩ ⟨apo, aco, apf, acf, apr, acr, app, acp⟩ ⟨bpo, bco, bpf, bcf, bpr, bcr, bpp, bcp⟩) => reqInts_any _ _ _ _ _ _ _ _ _ _ w1 H.l1.lr H.l2.lr)
  have HP := Lib.hid (fun (w1 : World) (H : Fo2 w w1 w.heap.size (w.heap.size + 1) ⟨xk, xw, xn, xp, xt, xo, xf, xr, xc, xm⟩ ⟨yk, yw, yn, yp, yt, yo, yf, yr, yc, ym⟩ ⟨apo, aco, apf, acf, apr, acr, app, acp⟩ ⟨bpo, bco, bpf, bcf, bpr, bcr, bpp, bcp⟩) => reqCells_any _ _ _ _ _ _ _ _ _ _ w1 H.l1.lp H.l2.lp)
  have HC : Hid (∀ w1 : World, Fo2 w w1 w.heap.size (w.heap.size + 1) ⟨xk, xw, xn, xp, xt, xo, xf, xr, xc, xm⟩ ⟨yk, yw, yn, yp, yt, yo, yf, yr, yc, ym⟩ ⟨apo, aco, apf, acf, apr, acr, app, acp⟩ ⟨bpo, bco, bpf, bcf, bpr, bcr, bpp, bcp⟩ → (∀ i, w1.cell? ⟨w.heap.size, i, none⟩ = (#[.int .u8 xk, .int .u8 xw, .string xn, .string xp, .string xt, .slice apo xo.length aco, .slice apf xf.length acf, .slice apr xr.length acr, .slice app xc.length acp, .int .i64 xm] : Array Value)[i]?) ∧ (∀ i, w1.cell? ⟨w.heap.size + 1, i, none⟩ = (#[.int .u8 yk, .int .u8 yw, .string yn, .string yp, .string yt, .slice bpo yo.length bco, .slice bpf yf.length bcf, .slice bpr yr.length bcr, .slice bpp yc.length bcp, .int .i64 ym] : Array Value)[i]?)) := Lib.hid (fun w1 H => ⟨H.b1.cell, H.b2.cell⟩)
  dsimp only at HO HF HR HP
  generalize listEq intsEq xo yo = bo at *
  generalize listEq intsEq xf yf = bf at *
  generalize listEq intsEq xr yr = br at *
  generalize listEq ceEq xc yc = bc at *
  go_enter Tryz.func27, Tryz.ntmps27
  go_upto_region 1 with (fail)
  generalize (w.alloc (.cells #[.int .u8 xk, .int .u8 xw, .string xn, .string xp, .string xt, .slice apo xo.length aco, .slice apf xf.length acf, .slice apr xr.length acr, .slice app xc.length acp, .int .i64 xm] 46)).alloc (.cells #[.int .u8 yk, .int .u8 yw, .string yn, .string yp, .string yt, .slice bpo yo.length bco, .slice bpf yf.length bcf, .slice bpr yr.length bcr, .slice bpp yc.length bcp, .int .i64 ym] 46) = w1 at *
  obtain ⟨hc1, hd1⟩ := HC.out w1 H0.out
  obtain ⟨hb, hhb⟩ : ∃ hb : Bool, hb = ((xk == yk) && ((xw == yw) && ((xm == ym) && ((xn.toList == yn.toList) && ((xp.toList == yp.toList) && (xt.toList == yt.toList)))))) := ⟨_, rfl⟩
  have Hhb := Lib.hid hhb
  have Hv2 : Hid (ev = (hb && (bo && (bf && (br && bc))))) := Lib.hid (by rw [Hv.out, hhb]; simp only [Bool.and_assoc])
  clear hhb Hv
  have Hv := Hv2
  clear Hv2
  go_cut [0, 1, 5] (fun _ _ v wx => v = .bool hb ∧ wx = w1)
  case first =>
    go_wp2_with fail
    all_goals
      go_meet
      refine ⟨?_, rfl⟩
      rw [Hhb.out]
      simp_all
  case rest =>
    obtain ⟨rfl, rfl⟩ := hcut
    cases hb with
    | false =>
      go_wp2_with fail
      go_ret
      exact ⟨ret_bool (by rw [Hv.out]; simp), H0.out.bel⟩
    | true =>
      go_wp2_with fail
      refine (HO.out _ H0.out).mono ?_
      rintro e wnA ⟨rfl, hb⟩
      have HA := Lib.hid (H0.out.step hb)
      obtain ⟨hcA, hdA⟩ := HC.out wnA HA.out
      clear hb
      clear hc1 hd1
      cases bo with
      | false =>
        go_wp2_with fail
        go_ret
        exact ⟨ret_bool (by rw [Hv.out]; simp), HA.out.bel⟩
      | true =>
        go_wp2_with fail
        refine (HF.out _ HA.out).mono ?_
        rintro e wnB ⟨rfl, hb⟩
        have HB := Lib.hid (HA.out.step hb)
        obtain ⟨hcB, hdB⟩ := HC.out wnB HB.out
        clear hb
        clear hcA hdA
        cases bf with
        | false =>
          go_wp2_with fail
          go_ret
          exact ⟨ret_bool (by rw [Hv.out]; simp), HB.out.bel⟩
        | true =>
          go_wp2_with fail
          refine (HR.out _ HB.out).mono ?_
          rintro e wnD ⟨rfl, hb⟩
          have HD := Lib.hid (HB.out.step hb)
          obtain ⟨hcD, hdD⟩ := HC.out wnD HD.out
          clear hb
          clear hcB hdB
          cases br with
          | false =>
            go_wp2_with fail
            go_ret
            exact ⟨ret_bool (by rw [Hv.out]; simp), HD.out.bel⟩
          | true =>
            go_wp2_with fail
            refine (HP.out _ HD.out).mono ?_
            rintro e wnE ⟨rfl, hb⟩
            have HE := Lib.hid (HD.out.step hb)
            obtain ⟨hcE, hdE⟩ := HC.out wnE HE.out
            clear hb
            go_wp2_with fail
            go_ret
            exact ⟨ret_bool (by rw [Hv.out]; simp), HE.out.bel⟩

end Go.Proofs.YtacnmdlefonjmaaGreat

