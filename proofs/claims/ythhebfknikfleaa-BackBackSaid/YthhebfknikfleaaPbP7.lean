/-
  Ground: FoF, Arr3, BaE.
-/
import Derived.Test.YthhebfknikfleaaPbP6
import Derived.Test.YthhebfknikfleaaPbP2
/-
  Messages of clients (layer 6): texts and values that may be; both.
-/
namespace Go.Proofs.Ythhebfknikfleaa
open Go.RowKit
set_option linter.unusedVariables false
set_option linter.unusedSimpArgs false

def dirty (s : ByteArray) : Bool := !cleanB s
set_option maxRecDepth 100000 in
set_option maxHeartbeats 4000000 in
theorem rvalues_any (S : Nat → Prop) (p : Option Addr) (n c : Nat) (l : List CeV) (w : World) (h : SliceS 2 CeS S w [.slice p n c] l) :
    Calls Try.prog 146 #[.slice p n c] w fun e w' => e = .returned (.bool (valuesV l)) ∧ w = w' := by
  obtain ⟨rfl, hlc, hcm⟩ := h.len
  unfold maxLen at hcm
  have H := Lib.hid h
  have Hv : Hid (valuesV l = (decide ((l.length : Int) ≤ 65535) && !l.any wrongC)) := Lib.hid (by unfold valuesV; congr 1; simp only [decide_eq_decide]; omega)
  generalize valuesV l = v at *
  clear h
  by_cases hlen : (l.length : Int) ≤ 65535
  · rw [decide_eq_true hlen, Bool.true_and] at Hv
    go_enter Try.func146, Try.ntmps146
    go_wp2_with fail
    go_loopw [3] (fun i wr => ∃ k : Nat, k ≤ l.length ∧ i = .int .i64 k ∧ (∀ j (hj : j < l.length), j < k → wrongC l[j] = false) ∧ wr = w) (fun i _ => l.length - (intOf i).toNat)
    case atStart => exact ⟨0, Nat.zero_le _, rfl, (fun j _ h => by omega), rfl⟩
    case round =>
      obtain ⟨k, hk, rfl, hall, rfl⟩ := hrel
      have Hall := Lib.hid hall
      clear hall
      by_cases hltk : k < l.length
      · obtain ⟨b, o, q, d, rfl, hS, hbl, c0, c1, hq⟩ := ce_at H.out hltk
        have Hbad := Lib.hid (any_at (P := wrongC) hltk)
        have Hgood := Lib.hid (fun h : wrongC l[k] = false => (fun j (hj : j < l.length) (hjk : j < k + 1) => by
          by_cases e : j = k
          · subst e; exact h
          · exact Hall.out j hj (by omega) : ∀ j (hj : j < l.length), j < k + 1 → wrongC l[j] = false))
        have Hx : Hid (wrongC l[k] = ((l[k].null && decide ((0 : Int) < (l[k].bytes.length : Int))) || decide ((1048576 : Int) < (l[k].bytes.length : Int)))) := Lib.hid (by
          unfold wrongC
          have h1 : decide (0 < l[k].bytes.length) = decide ((0 : Int) < (l[k].bytes.length : Int)) := decide_eq_decide.2 (by omega)
          have h2 : decide (1048576 < l[k].bytes.length) = decide ((1048576 : Int) < (l[k].bytes.length : Int)) := decide_eq_decide.2 (by omega)
          rw [h1, h2])
        clear hS hq
        generalize wrongC l[k] = uf at *
        generalize l[k] = x at *
        obtain ⟨xn, xb⟩ := x
        dsimp only at *
        generalize xb.length = m at *
        have hlti : (k : Int) < (l.length : Int) := by omega
        cases huf : uf with
        | true =>
          have Hf := Lib.hid (Hbad.out huf)
          have Huf := Lib.hid huf
          have hx := Hx.out
          rw [huf] at hx
          clear huf
          cases xn with
          | false =>
            have h1 : (1048576 : Int) < (m : Int) := by simpa using hx.symm
            clear hx
            go_wp2_with fail
            go_ret
            exact ⟨ret_bool (by rw [Hv.out, Hf.out]; rfl), rfl⟩
          | true =>
            clear hx
            cases m with
            | zero =>
              exfalso
              have := Hx.out
              rw [show uf = true from Huf.out] at this
              simp at this
            | succ m =>
              go_wp2_with fail
              all_goals
                go_ret
                exact ⟨ret_bool (by rw [Hv.out, Hf.out]; rfl), rfl⟩
        | false =>
          have Hf := Lib.hid (Hgood.out huf)
          have hx := Hx.out
          rw [huf] at hx
          clear huf
          have h1 : ¬ (1048576 : Int) < (m : Int) := by
            intro e
            rw [decide_eq_true e] at hx
            simp at hx
          cases xn with
          | false =>
            clear hx
            go_wp2_with fail
            go_roundw
            case rel => exact ⟨k + 1, by omega, by go_num, Hf.out, by first | rfl | trivial⟩
            case measure => simp [intOf]; omega
          | true =>
            have h0 : ¬ (0 : Int) < (m : Int) := by
              intro e
              rw [decide_eq_true e] at hx
              simp at hx
            obtain rfl : m = 0 := by omega
            clear hx
            go_wp2_with fail
            go_roundw
            case rel => exact ⟨k + 1, by omega, by go_num, Hf.out, by first | rfl | trivial⟩
            case measure => simp [intOf]; omega
      · obtain rfl : k = l.length := by omega
        have Hf := Lib.hid (notAny_all (P := wrongC) (fun j hj => Hall.out j hj hj))
        clear Hall
        go_wp2_with fail
        go_ret
        exact ⟨ret_bool (by rw [Hv.out, Hf.out]; rfl), rfl⟩
  · rw [decide_eq_false hlen] at Hv
    go_enter Try.func146, Try.ntmps146
    go_wp2_with fail
    go_ret
    exact ⟨ret_bool (by rw [Hv.out]; rfl), rfl⟩

end Go.Proofs.Ythhebfknikfleaa

/-
  '==' of two arrays of three texts.
-/
namespace Go.Proofs.Ythhebfknikfleaa
open Go.RowKit
set_option linter.unusedVariables false
set_option linter.unusedSimpArgs false

set_option maxRecDepth 10000 in
theorem eql_str3 (a0 a1 a2 b0 b1 b2 : ByteArray) (w : World) :
    (binOp .eql 97 (.agg #[.string a0, .string a1, .string a2]) (.agg #[.string b0, .string b1, .string b2])).run Try.prog w = .ok (.bool ((a0.toList == b0.toList) && ((a1.toList == b1.toList) && (a2.toList == b2.toList)))) w := by
  have hu : Try.prog.underlying 97 = some (.array 3 9) := Try.underlying97
  have u2 := Try.underlying9
  have a2' := Try.isAgg9
  have z2 := Try.sizeOf9
  obtain ⟨d, hd⟩ : ∃ d : Nat, 10000 = d + 1 + 1 := ⟨9998, rfl⟩
  rw [run_eql_struct, hd, Op.equalIn]
  clear hd
  simp only [Sem.run_bind, run_underlying hu, Result.andThen_ok]
  rw [z2]
  simp only [Result.andThen_ok, Std.Legacy.Range.forIn_eq_forIn_range', Std.Legacy.Range.size, List.range', List.forIn_cons, List.forIn_nil, Sem.run_bind]
  go_simp
  by_cases h1 : a0.toList = b0.toList <;> by_cases h2 : a1.toList = b1.toList <;> by_cases h3 : a2.toList = b2.toList <;> simp [h1, h2, h3]

end Go.Proofs.Ythhebfknikfleaa

/-
  Messages of servers (layer 7): a message with just the fields that its body has: the program's.
-/
namespace Go.Proofs.Ythhebfknikfleaa
open Go.RowKit
set_option linter.unusedVariables false
set_option linter.unusedSimpArgs false

def baZ : Array Value := #[.int .u8 0, .int .u8 0, .string ⟨#[]⟩, .string ⟨#[]⟩, .string ⟨#[]⟩, .int .i64 0, .int .i64 0, .slice none 0 0, .slice none 0 0, .slice none 0 0, .slice none 0 0]
/-- Eleven cells are stored into a block. -/
abbrev setEl (w : World) (g : Nat) (v0 v1 v2 v3 v4 v5 v6 v7 v8 v9 v10 : Value) : World := (((((((((((w.setCell ⟨g, 0, none⟩ v0).setCell ⟨g, 1, none⟩ v1).setCell ⟨g, 2, none⟩ v2).setCell ⟨g, 3, none⟩ v3).setCell ⟨g, 4, none⟩ v4).setCell ⟨g, 5, none⟩ v5).setCell ⟨g, 6, none⟩ v6).setCell ⟨g, 7, none⟩ v7).setCell ⟨g, 8, none⟩ v8).setCell ⟨g, 9, none⟩ v9).setCell ⟨g, 10, none⟩ v10)
theorem setEl_touch (w : World) (g : Nat) (v0 v1 v2 v3 v4 v5 v6 v7 v8 v9 v10 : Value) : Touch (fun k => k = g) w (setEl w g v0 v1 v2 v3 v4 v5 v6 v7 v8 v9 v10) := ((((((((((((Touch.refl (fun k => k = g) w).setCell (x := ⟨g, 0, none⟩) (fun _ => rfl) _).setCell (x := ⟨g, 1, none⟩) (fun _ => rfl) _).setCell (x := ⟨g, 2, none⟩) (fun _ => rfl) _).setCell (x := ⟨g, 3, none⟩) (fun _ => rfl) _).setCell (x := ⟨g, 4, none⟩) (fun _ => rfl) _).setCell (x := ⟨g, 5, none⟩) (fun _ => rfl) _).setCell (x := ⟨g, 6, none⟩) (fun _ => rfl) _).setCell (x := ⟨g, 7, none⟩) (fun _ => rfl) _).setCell (x := ⟨g, 8, none⟩) (fun _ => rfl) _).setCell (x := ⟨g, 9, none⟩) (fun _ => rfl) _).setCell (x := ⟨g, 10, none⟩) (fun _ => rfl) _)
theorem setEl_blk {t : TypeId} {w : World} {g : Nat} {u0 u1 u2 u3 u4 u5 u6 u7 u8 u9 u10 : Value} (v0 v1 v2 v3 v4 v5 v6 v7 v8 v9 v10 : Value) (hb : Blk w g t #[u0, u1, u2, u3, u4, u5, u6, u7, u8, u9, u10]) : Blk (setEl w g v0 v1 v2 v3 v4 v5 v6 v7 v8 v9 v10) g t #[v0, v1, v2, v3, v4, v5, v6, v7, v8, v9, v10] := by
  have h := (((((((((((hb.set_ 0 v0).set_ 1 v1).set_ 2 v2).set_ 3 v3).set_ 4 v4).set_ 5 v5).set_ 6 v6).set_ 7 v7).set_ 8 v8).set_ 9 v9).set_ 10 v10)
  simpa using h

/-- What 'of' leaves. -/
def KeptB (S : Nat → Prop) (f : BaV) (w : World) (e : Ending) (w' : World) : Prop := ∃ a', e = .returned (baArg (keptB f) a') ∧ BaL S w' (keptB f) a' ∧ Below w.heap.size w w'

/-- What holds ahead of the stores: the message, the result, the message that is made. -/
structure KbI (w0 w : World) (c1 c3 : Array Value) : Prop where
  b1 : Blk w w0.heap.size 33 c1
  b2 : Blk w (w0.heap.size + 1) 33 baZ
  b3 : Blk w (w0.heap.size + 1 + 1) 33 c3
  bel : Below w0.heap.size w0 w
theorem KbI.start (w : World) (c1 c3 : Array Value) : KbI w (((w.alloc (.cells c1 33)).alloc (.cells baZ 33)).alloc (.cells c3 33)) c1 c3 := by
  have e1 : (w.alloc (.cells c1 33)).heap.size = w.heap.size + 1 := by simp
  have e2 : ((w.alloc (.cells c1 33)).alloc (.cells baZ 33)).heap.size = w.heap.size + 1 + 1 := by simp
  refine ⟨((Blk.new _ _ _).alloc _).alloc _, ?_, ?_, (((Below.refl _ _).alloc (Nat.le_refl _) _).alloc (by simp) _).alloc (by simp; omega) _⟩
  · have := (Blk.new (w.alloc (.cells c1 33)) 33 baZ).alloc (.cells c3 33)
    rw [e1] at this
    exact this
  · have := Blk.new ((w.alloc (.cells c1 33)).alloc (.cells baZ 33)) 33 c3
    rw [e2] at this
    exact this
theorem KbI.set {w0 w : World} {c1 c3 : Array Value} (h : KbI w0 w c1 c3) (i : Nat) (u : Value) : KbI w0 (w.setCell ⟨w0.heap.size + 1 + 1, i, none⟩ u) c1 (c3.setIfInBounds i u) := by
  have hT : Touch (fun k => k = w0.heap.size + 1 + 1) w (w.setCell ⟨w0.heap.size + 1 + 1, i, none⟩ u) := (Touch.refl (fun k => k = w0.heap.size + 1 + 1) w).setCell (x := ⟨w0.heap.size + 1 + 1, i, none⟩) (fun _ => rfl) _
  exact ⟨hT.blk h.b1 (by omega), hT.blk h.b2 (by omega), h.b3.set_ i u, h.bel.trans (hT.below h.bel.size (fun k e => by omega))⟩
theorem KbI.drew {w0 w : World} {c1 c3 : Array Value} (h : KbI w0 w c1 c3) : KbI w0 w.drew c1 c3 := ⟨h.b1, h.b2, h.b3, h.bel.trans (((Touch.refl (fun _ => False) w).drew).below h.bel.size (fun _ e => e.elim))⟩

theorem kindB_cases (k : Int) : k = 83 ∨ k = 75 ∨ k = 90 ∨ k = 67 ∨ k = 68 ∨ k = 84 ∨ k = 116 ∨ k = 69 ∨ k = 78 ∨ (∀ n ∈ [83, 75, 90, 67, 68, 84, 116, 69, 78], (k == n) = false) := by
  by_cases h0 : k = 83
  · exact .inl h0
  by_cases h1 : k = 75
  · exact .inr (.inl h1)
  by_cases h2 : k = 90
  · exact .inr (.inr (.inl h2))
  by_cases h3 : k = 67
  · exact .inr (.inr (.inr (.inl h3)))
  by_cases h4 : k = 68
  · exact .inr (.inr (.inr (.inr (.inl h4))))
  by_cases h5 : k = 84
  · exact .inr (.inr (.inr (.inr (.inr (.inl h5)))))
  by_cases h6 : k = 116
  · exact .inr (.inr (.inr (.inr (.inr (.inr (.inl h6))))))
  by_cases h7 : k = 69
  · exact .inr (.inr (.inr (.inr (.inr (.inr (.inr (.inl h7)))))))
  by_cases h8 : k = 78
  · exact .inr (.inr (.inr (.inr (.inr (.inr (.inr (.inr (.inl h8))))))))
  refine .inr (.inr (.inr (.inr (.inr (.inr (.inr (.inr (.inr (?_)))))))))
  intro n hn
  simp only [List.mem_cons, List.not_mem_nil, or_false] at hn
  rcases hn with rfl | rfl | rfl | rfl | rfl | rfl | rfl | rfl | rfl <;> simp [*]

set_option maxRecDepth 100000 in
set_option maxHeartbeats 4000000 in
theorem bof_S (S : Nat → Prop) (x : BaV) (a : BaP) (w : World) (h : BaL S w x a) (hk : x.kind = 83) : Calls Try.prog 100 #[baArg x a] w (KeptB S x w) := by
  have HL := Lib.hid h
  have Hk : Hid (keptB x = ⟨83, 0, ⟨#[]⟩, x.name, x.value, 0, 0, [], [], [], []⟩) := Lib.hid (by unfold keptB baZero; simp_all)
  unfold KeptB
  generalize keptB x = kx at *
  obtain ⟨xk, xs, xt, xn, xv, xa, xb, xo, xc, xr, xf⟩ := x
  obtain ⟨apo, aco, apc, acc, apr, acr, apf, acf⟩ := a
  clear h
  dsimp only at *
  subst hk
  unfold baArg baCells
  dsimp only
  have H1 := Lib.hid (KbI.start w #[.int .u8 83, .int .u8 xs, .string xt, .string xn, .string xv, .int .i64 xa, .int .i64 xb, .slice apo xo.length aco, .slice apc xc.length acc, .slice apr xr.length acr, .slice apf xf.length acf] #[.int .u8 83, .int .u8 0, .string ⟨#[]⟩, .string ⟨#[]⟩, .string ⟨#[]⟩, .int .i64 0, .int .i64 0, .slice none 0 0, .slice none 0 0, .slice none 0 0, .slice none 0 0])
  unfold baZ at H1
  go_enter Try.func100, Try.ntmps100
  go_upto_region 2 with (fail)
  generalize ((w.alloc (.cells #[.int .u8 83, .int .u8 xs, .string xt, .string xn, .string xv, .int .i64 xa, .int .i64 xb, .slice apo xo.length aco, .slice apc xc.length acc, .slice apr xr.length acr, .slice apf xf.length acf] 33)).alloc (.cells #[.int .u8 0, .int .u8 0, .string ⟨#[]⟩, .string ⟨#[]⟩, .string ⟨#[]⟩, .int .i64 0, .int .i64 0, .slice none 0 0, .slice none 0 0, .slice none 0 0, .slice none 0 0] 33)).alloc (.cells #[.int .u8 83, .int .u8 0, .string ⟨#[]⟩, .string ⟨#[]⟩, .string ⟨#[]⟩, .int .i64 0, .int .i64 0, .slice none 0 0, .slice none 0 0, .slice none 0 0, .slice none 0 0] 33) = w1 at *
  have c1 := H1.out.b1.cell
  have c3 := H1.out.b3.cell
  have f3 := H1.out.b3.frozen
  go_wp2_with fail
  go_region
  have h2 := ((H1.out.set 3 (.string xn)).set 4 (.string xv)).drew
  try simp only [List.setIfInBounds_toArray, List.set_cons_succ, List.set_cons_zero] at h2
  have H2 := Lib.hid h2
  clear h2 c1 c3 f3
  generalize ((w1.setCell ⟨w.heap.size + 1 + 1, 3, none⟩ (.string xn)).setCell ⟨w.heap.size + 1 + 1, 4, none⟩ (.string xv)).drew = w2 at *
  have c3 := H2.out.b3.cell
  have c2 : ∀ i, w2.cell? ⟨w.heap.size + 1, i, none⟩ = (#[.int .u8 0, .int .u8 0, .string ⟨#[]⟩, .string ⟨#[]⟩, .string ⟨#[]⟩, .int .i64 0, .int .i64 0, .slice none 0 0, .slice none 0 0, .slice none 0 0, .slice none 0 0] : Array Value)[i]? := H2.out.b2.cell
  have f2 := H2.out.b2.frozen
  go_wp2_with fail
  have hT := setEl_touch w2 (w.heap.size + 1) (.int .u8 83) (.int .u8 0) (.string ⟨#[]⟩) (.string xn) (.string xv) (.int .i64 0) (.int .i64 0) (.slice none 0 0) (.slice none 0 0) (.slice none 0 0) (.slice none 0 0)
  have hbf := setEl_blk (.int .u8 83) (.int .u8 0) (.string ⟨#[]⟩) (.string xn) (.string xv) (.int .i64 0) (.int .i64 0) (.slice none 0 0) (.slice none 0 0) (.slice none 0 0) (.slice none 0 0) H2.out.b2
  have HB := Lib.hid (H2.out.bel.trans (hT.below H2.out.bel.size (fun k hk => by omega)))
  unfold setEl at hbf HB
  have hcf := hbf.cell
  clear hT hbf c3 c2 f2
  refine bodyPost_ret (v := .agg #[.int .u8 83, .int .u8 0, .string ⟨#[]⟩, .string xn, .string xv, .int .i64 0, .int .i64 0, .slice none 0 0, .slice none 0 0, .slice none 0 0, .slice none 0 0]) (by simp [results, Try.results100, go_sem, hcf]) rfl ?_
  rw [Hk.out]
  exact ⟨⟨none, 0, none, 0, none, 0, none, 0⟩, rfl, ⟨SliceS.empty none 0 (by simp [maxLen]), SliceS.empty none 0 (by simp [maxLen]), SliceS.empty none 0 (by simp [maxLen]), SliceS.empty none 0 (by simp [maxLen])⟩, HB.out⟩

set_option maxRecDepth 100000 in
set_option maxHeartbeats 4000000 in
theorem bof_K (S : Nat → Prop) (x : BaV) (a : BaP) (w : World) (h : BaL S w x a) (hk : x.kind = 75) : Calls Try.prog 100 #[baArg x a] w (KeptB S x w) := by
  have HL := Lib.hid h
  have Hk : Hid (keptB x = ⟨75, 0, ⟨#[]⟩, ⟨#[]⟩, ⟨#[]⟩, x.n, x.m, [], [], [], []⟩) := Lib.hid (by unfold keptB baZero; simp_all)
  unfold KeptB
  generalize keptB x = kx at *
  obtain ⟨xk, xs, xt, xn, xv, xa, xb, xo, xc, xr, xf⟩ := x
  obtain ⟨apo, aco, apc, acc, apr, acr, apf, acf⟩ := a
  clear h
  dsimp only at *
  subst hk
  unfold baArg baCells
  dsimp only
  have H1 := Lib.hid (KbI.start w #[.int .u8 75, .int .u8 xs, .string xt, .string xn, .string xv, .int .i64 xa, .int .i64 xb, .slice apo xo.length aco, .slice apc xc.length acc, .slice apr xr.length acr, .slice apf xf.length acf] #[.int .u8 75, .int .u8 0, .string ⟨#[]⟩, .string ⟨#[]⟩, .string ⟨#[]⟩, .int .i64 0, .int .i64 0, .slice none 0 0, .slice none 0 0, .slice none 0 0, .slice none 0 0])
  unfold baZ at H1
  go_enter Try.func100, Try.ntmps100
  go_upto_region 2 with (fail)
  generalize ((w.alloc (.cells #[.int .u8 75, .int .u8 xs, .string xt, .string xn, .string xv, .int .i64 xa, .int .i64 xb, .slice apo xo.length aco, .slice apc xc.length acc, .slice apr xr.length acr, .slice apf xf.length acf] 33)).alloc (.cells #[.int .u8 0, .int .u8 0, .string ⟨#[]⟩, .string ⟨#[]⟩, .string ⟨#[]⟩, .int .i64 0, .int .i64 0, .slice none 0 0, .slice none 0 0, .slice none 0 0, .slice none 0 0] 33)).alloc (.cells #[.int .u8 75, .int .u8 0, .string ⟨#[]⟩, .string ⟨#[]⟩, .string ⟨#[]⟩, .int .i64 0, .int .i64 0, .slice none 0 0, .slice none 0 0, .slice none 0 0, .slice none 0 0] 33) = w1 at *
  have c1 := H1.out.b1.cell
  have c3 := H1.out.b3.cell
  have f3 := H1.out.b3.frozen
  go_wp2_with fail
  go_region
  have h2 := ((H1.out.set 5 (.int .i64 xa)).set 6 (.int .i64 xb)).drew
  try simp only [List.setIfInBounds_toArray, List.set_cons_succ, List.set_cons_zero] at h2
  have H2 := Lib.hid h2
  clear h2 c1 c3 f3
  generalize ((w1.setCell ⟨w.heap.size + 1 + 1, 5, none⟩ (.int .i64 xa)).setCell ⟨w.heap.size + 1 + 1, 6, none⟩ (.int .i64 xb)).drew = w2 at *
  have c3 := H2.out.b3.cell
  have c2 : ∀ i, w2.cell? ⟨w.heap.size + 1, i, none⟩ = (#[.int .u8 0, .int .u8 0, .string ⟨#[]⟩, .string ⟨#[]⟩, .string ⟨#[]⟩, .int .i64 0, .int .i64 0, .slice none 0 0, .slice none 0 0, .slice none 0 0, .slice none 0 0] : Array Value)[i]? := H2.out.b2.cell
  have f2 := H2.out.b2.frozen
  go_wp2_with fail
  have hT := setEl_touch w2 (w.heap.size + 1) (.int .u8 75) (.int .u8 0) (.string ⟨#[]⟩) (.string ⟨#[]⟩) (.string ⟨#[]⟩) (.int .i64 xa) (.int .i64 xb) (.slice none 0 0) (.slice none 0 0) (.slice none 0 0) (.slice none 0 0)
  have hbf := setEl_blk (.int .u8 75) (.int .u8 0) (.string ⟨#[]⟩) (.string ⟨#[]⟩) (.string ⟨#[]⟩) (.int .i64 xa) (.int .i64 xb) (.slice none 0 0) (.slice none 0 0) (.slice none 0 0) (.slice none 0 0) H2.out.b2
  have HB := Lib.hid (H2.out.bel.trans (hT.below H2.out.bel.size (fun k hk => by omega)))
  unfold setEl at hbf HB
  have hcf := hbf.cell
  clear hT hbf c3 c2 f2
  refine bodyPost_ret (v := .agg #[.int .u8 75, .int .u8 0, .string ⟨#[]⟩, .string ⟨#[]⟩, .string ⟨#[]⟩, .int .i64 xa, .int .i64 xb, .slice none 0 0, .slice none 0 0, .slice none 0 0, .slice none 0 0]) (by simp [results, Try.results100, go_sem, hcf]) rfl ?_
  rw [Hk.out]
  exact ⟨⟨none, 0, none, 0, none, 0, none, 0⟩, rfl, ⟨SliceS.empty none 0 (by simp [maxLen]), SliceS.empty none 0 (by simp [maxLen]), SliceS.empty none 0 (by simp [maxLen]), SliceS.empty none 0 (by simp [maxLen])⟩, HB.out⟩

set_option maxRecDepth 100000 in
set_option maxHeartbeats 4000000 in
theorem bof_Z (S : Nat → Prop) (x : BaV) (a : BaP) (w : World) (h : BaL S w x a) (hk : x.kind = 90) : Calls Try.prog 100 #[baArg x a] w (KeptB S x w) := by
  have HL := Lib.hid h
  have Hk : Hid (keptB x = ⟨90, x.status, ⟨#[]⟩, ⟨#[]⟩, ⟨#[]⟩, 0, 0, [], [], [], []⟩) := Lib.hid (by unfold keptB baZero; simp_all)
  unfold KeptB
  generalize keptB x = kx at *
  obtain ⟨xk, xs, xt, xn, xv, xa, xb, xo, xc, xr, xf⟩ := x
  obtain ⟨apo, aco, apc, acc, apr, acr, apf, acf⟩ := a
  clear h
  dsimp only at *
  subst hk
  unfold baArg baCells
  dsimp only
  have H1 := Lib.hid (KbI.start w #[.int .u8 90, .int .u8 xs, .string xt, .string xn, .string xv, .int .i64 xa, .int .i64 xb, .slice apo xo.length aco, .slice apc xc.length acc, .slice apr xr.length acr, .slice apf xf.length acf] #[.int .u8 90, .int .u8 0, .string ⟨#[]⟩, .string ⟨#[]⟩, .string ⟨#[]⟩, .int .i64 0, .int .i64 0, .slice none 0 0, .slice none 0 0, .slice none 0 0, .slice none 0 0])
  unfold baZ at H1
  go_enter Try.func100, Try.ntmps100
  go_upto_region 2 with (fail)
  generalize ((w.alloc (.cells #[.int .u8 90, .int .u8 xs, .string xt, .string xn, .string xv, .int .i64 xa, .int .i64 xb, .slice apo xo.length aco, .slice apc xc.length acc, .slice apr xr.length acr, .slice apf xf.length acf] 33)).alloc (.cells #[.int .u8 0, .int .u8 0, .string ⟨#[]⟩, .string ⟨#[]⟩, .string ⟨#[]⟩, .int .i64 0, .int .i64 0, .slice none 0 0, .slice none 0 0, .slice none 0 0, .slice none 0 0] 33)).alloc (.cells #[.int .u8 90, .int .u8 0, .string ⟨#[]⟩, .string ⟨#[]⟩, .string ⟨#[]⟩, .int .i64 0, .int .i64 0, .slice none 0 0, .slice none 0 0, .slice none 0 0, .slice none 0 0] 33) = w1 at *
  have c1 := H1.out.b1.cell
  have c3 := H1.out.b3.cell
  have f3 := H1.out.b3.frozen
  go_upto_region 20 with fail
  have h2 := (H1.out.set 1 (.int .u8 xs))
  try simp only [List.setIfInBounds_toArray, List.set_cons_succ, List.set_cons_zero] at h2
  have H2 := Lib.hid h2
  clear h2 c1 c3 f3
  generalize (w1.setCell ⟨w.heap.size + 1 + 1, 1, none⟩ (.int .u8 xs)) = w2 at *
  have c3 := H2.out.b3.cell
  have c2 : ∀ i, w2.cell? ⟨w.heap.size + 1, i, none⟩ = (#[.int .u8 0, .int .u8 0, .string ⟨#[]⟩, .string ⟨#[]⟩, .string ⟨#[]⟩, .int .i64 0, .int .i64 0, .slice none 0 0, .slice none 0 0, .slice none 0 0, .slice none 0 0] : Array Value)[i]? := H2.out.b2.cell
  have f2 := H2.out.b2.frozen
  go_wp2_with fail
  have hT := setEl_touch w2 (w.heap.size + 1) (.int .u8 90) (.int .u8 xs) (.string ⟨#[]⟩) (.string ⟨#[]⟩) (.string ⟨#[]⟩) (.int .i64 0) (.int .i64 0) (.slice none 0 0) (.slice none 0 0) (.slice none 0 0) (.slice none 0 0)
  have hbf := setEl_blk (.int .u8 90) (.int .u8 xs) (.string ⟨#[]⟩) (.string ⟨#[]⟩) (.string ⟨#[]⟩) (.int .i64 0) (.int .i64 0) (.slice none 0 0) (.slice none 0 0) (.slice none 0 0) (.slice none 0 0) H2.out.b2
  have HB := Lib.hid (H2.out.bel.trans (hT.below H2.out.bel.size (fun k hk => by omega)))
  unfold setEl at hbf HB
  have hcf := hbf.cell
  clear hT hbf c3 c2 f2
  refine bodyPost_ret (v := .agg #[.int .u8 90, .int .u8 xs, .string ⟨#[]⟩, .string ⟨#[]⟩, .string ⟨#[]⟩, .int .i64 0, .int .i64 0, .slice none 0 0, .slice none 0 0, .slice none 0 0, .slice none 0 0]) (by simp [results, Try.results100, go_sem, hcf]) rfl ?_
  rw [Hk.out]
  exact ⟨⟨none, 0, none, 0, none, 0, none, 0⟩, rfl, ⟨SliceS.empty none 0 (by simp [maxLen]), SliceS.empty none 0 (by simp [maxLen]), SliceS.empty none 0 (by simp [maxLen]), SliceS.empty none 0 (by simp [maxLen])⟩, HB.out⟩

set_option maxRecDepth 100000 in
set_option maxHeartbeats 4000000 in
theorem bof_C (S : Nat → Prop) (x : BaV) (a : BaP) (w : World) (h : BaL S w x a) (hk : x.kind = 67) : Calls Try.prog 100 #[baArg x a] w (KeptB S x w) := by
  have HL := Lib.hid h
  have Hk : Hid (keptB x = ⟨67, 0, x.tag, ⟨#[]⟩, ⟨#[]⟩, 0, 0, [], [], [], []⟩) := Lib.hid (by unfold keptB baZero; simp_all)
  unfold KeptB
  generalize keptB x = kx at *
  obtain ⟨xk, xs, xt, xn, xv, xa, xb, xo, xc, xr, xf⟩ := x
  obtain ⟨apo, aco, apc, acc, apr, acr, apf, acf⟩ := a
  clear h
  dsimp only at *
  subst hk
  unfold baArg baCells
  dsimp only
  have H1 := Lib.hid (KbI.start w #[.int .u8 67, .int .u8 xs, .string xt, .string xn, .string xv, .int .i64 xa, .int .i64 xb, .slice apo xo.length aco, .slice apc xc.length acc, .slice apr xr.length acr, .slice apf xf.length acf] #[.int .u8 67, .int .u8 0, .string ⟨#[]⟩, .string ⟨#[]⟩, .string ⟨#[]⟩, .int .i64 0, .int .i64 0, .slice none 0 0, .slice none 0 0, .slice none 0 0, .slice none 0 0])
  unfold baZ at H1
  go_enter Try.func100, Try.ntmps100
  go_upto_region 2 with (fail)
  generalize ((w.alloc (.cells #[.int .u8 67, .int .u8 xs, .string xt, .string xn, .string xv, .int .i64 xa, .int .i64 xb, .slice apo xo.length aco, .slice apc xc.length acc, .slice apr xr.length acr, .slice apf xf.length acf] 33)).alloc (.cells #[.int .u8 0, .int .u8 0, .string ⟨#[]⟩, .string ⟨#[]⟩, .string ⟨#[]⟩, .int .i64 0, .int .i64 0, .slice none 0 0, .slice none 0 0, .slice none 0 0, .slice none 0 0] 33)).alloc (.cells #[.int .u8 67, .int .u8 0, .string ⟨#[]⟩, .string ⟨#[]⟩, .string ⟨#[]⟩, .int .i64 0, .int .i64 0, .slice none 0 0, .slice none 0 0, .slice none 0 0, .slice none 0 0] 33) = w1 at *
  have c1 := H1.out.b1.cell
  have c3 := H1.out.b3.cell
  have f3 := H1.out.b3.frozen
  go_upto_region 20 with fail
  have h2 := (H1.out.set 2 (.string xt))
  try simp only [List.setIfInBounds_toArray, List.set_cons_succ, List.set_cons_zero] at h2
  have H2 := Lib.hid h2
  clear h2 c1 c3 f3
  generalize (w1.setCell ⟨w.heap.size + 1 + 1, 2, none⟩ (.string xt)) = w2 at *
  have c3 := H2.out.b3.cell
  have c2 : ∀ i, w2.cell? ⟨w.heap.size + 1, i, none⟩ = (#[.int .u8 0, .int .u8 0, .string ⟨#[]⟩, .string ⟨#[]⟩, .string ⟨#[]⟩, .int .i64 0, .int .i64 0, .slice none 0 0, .slice none 0 0, .slice none 0 0, .slice none 0 0] : Array Value)[i]? := H2.out.b2.cell
  have f2 := H2.out.b2.frozen
  go_wp2_with fail
  have hT := setEl_touch w2 (w.heap.size + 1) (.int .u8 67) (.int .u8 0) (.string xt) (.string ⟨#[]⟩) (.string ⟨#[]⟩) (.int .i64 0) (.int .i64 0) (.slice none 0 0) (.slice none 0 0) (.slice none 0 0) (.slice none 0 0)
  have hbf := setEl_blk (.int .u8 67) (.int .u8 0) (.string xt) (.string ⟨#[]⟩) (.string ⟨#[]⟩) (.int .i64 0) (.int .i64 0) (.slice none 0 0) (.slice none 0 0) (.slice none 0 0) (.slice none 0 0) H2.out.b2
  have HB := Lib.hid (H2.out.bel.trans (hT.below H2.out.bel.size (fun k hk => by omega)))
  unfold setEl at hbf HB
  have hcf := hbf.cell
  clear hT hbf c3 c2 f2
  refine bodyPost_ret (v := .agg #[.int .u8 67, .int .u8 0, .string xt, .string ⟨#[]⟩, .string ⟨#[]⟩, .int .i64 0, .int .i64 0, .slice none 0 0, .slice none 0 0, .slice none 0 0, .slice none 0 0]) (by simp [results, Try.results100, go_sem, hcf]) rfl ?_
  rw [Hk.out]
  exact ⟨⟨none, 0, none, 0, none, 0, none, 0⟩, rfl, ⟨SliceS.empty none 0 (by simp [maxLen]), SliceS.empty none 0 (by simp [maxLen]), SliceS.empty none 0 (by simp [maxLen]), SliceS.empty none 0 (by simp [maxLen])⟩, HB.out⟩

set_option maxRecDepth 100000 in
set_option maxHeartbeats 4000000 in
theorem bof_D (S : Nat → Prop) (x : BaV) (a : BaP) (w : World) (h : BaL S w x a) (hk : x.kind = 68) : Calls Try.prog 100 #[baArg x a] w (KeptB S x w) := by
  have HL := Lib.hid h
  have Hk : Hid (keptB x = ⟨68, 0, ⟨#[]⟩, ⟨#[]⟩, ⟨#[]⟩, 0, 0, [], [], x.row, []⟩) := Lib.hid (by unfold keptB baZero; simp_all)
  unfold KeptB
  generalize keptB x = kx at *
  obtain ⟨xk, xs, xt, xn, xv, xa, xb, xo, xc, xr, xf⟩ := x
  obtain ⟨apo, aco, apc, acc, apr, acr, apf, acf⟩ := a
  clear h
  dsimp only at *
  subst hk
  unfold baArg baCells
  dsimp only
  have H1 := Lib.hid (KbI.start w #[.int .u8 68, .int .u8 xs, .string xt, .string xn, .string xv, .int .i64 xa, .int .i64 xb, .slice apo xo.length aco, .slice apc xc.length acc, .slice apr xr.length acr, .slice apf xf.length acf] #[.int .u8 68, .int .u8 0, .string ⟨#[]⟩, .string ⟨#[]⟩, .string ⟨#[]⟩, .int .i64 0, .int .i64 0, .slice none 0 0, .slice none 0 0, .slice none 0 0, .slice none 0 0])
  unfold baZ at H1
  go_enter Try.func100, Try.ntmps100
  go_upto_region 2 with (fail)
  generalize ((w.alloc (.cells #[.int .u8 68, .int .u8 xs, .string xt, .string xn, .string xv, .int .i64 xa, .int .i64 xb, .slice apo xo.length aco, .slice apc xc.length acc, .slice apr xr.length acr, .slice apf xf.length acf] 33)).alloc (.cells #[.int .u8 0, .int .u8 0, .string ⟨#[]⟩, .string ⟨#[]⟩, .string ⟨#[]⟩, .int .i64 0, .int .i64 0, .slice none 0 0, .slice none 0 0, .slice none 0 0, .slice none 0 0] 33)).alloc (.cells #[.int .u8 68, .int .u8 0, .string ⟨#[]⟩, .string ⟨#[]⟩, .string ⟨#[]⟩, .int .i64 0, .int .i64 0, .slice none 0 0, .slice none 0 0, .slice none 0 0, .slice none 0 0] 33) = w1 at *
  have c1 := H1.out.b1.cell
  have c3 := H1.out.b3.cell
  have f3 := H1.out.b3.frozen
  go_upto_region 20 with fail
  have h2 := (H1.out.set 9 (.slice apr xr.length acr))
  try simp only [List.setIfInBounds_toArray, List.set_cons_succ, List.set_cons_zero] at h2
  have H2 := Lib.hid h2
  clear h2 c1 c3 f3
  generalize (w1.setCell ⟨w.heap.size + 1 + 1, 9, none⟩ (.slice apr xr.length acr)) = w2 at *
  have c3 := H2.out.b3.cell
  have c2 : ∀ i, w2.cell? ⟨w.heap.size + 1, i, none⟩ = (#[.int .u8 0, .int .u8 0, .string ⟨#[]⟩, .string ⟨#[]⟩, .string ⟨#[]⟩, .int .i64 0, .int .i64 0, .slice none 0 0, .slice none 0 0, .slice none 0 0, .slice none 0 0] : Array Value)[i]? := H2.out.b2.cell
  have f2 := H2.out.b2.frozen
  go_wp2_with fail
  have hT := setEl_touch w2 (w.heap.size + 1) (.int .u8 68) (.int .u8 0) (.string ⟨#[]⟩) (.string ⟨#[]⟩) (.string ⟨#[]⟩) (.int .i64 0) (.int .i64 0) (.slice none 0 0) (.slice none 0 0) (.slice apr xr.length acr) (.slice none 0 0)
  have hbf := setEl_blk (.int .u8 68) (.int .u8 0) (.string ⟨#[]⟩) (.string ⟨#[]⟩) (.string ⟨#[]⟩) (.int .i64 0) (.int .i64 0) (.slice none 0 0) (.slice none 0 0) (.slice apr xr.length acr) (.slice none 0 0) H2.out.b2
  have HB := Lib.hid (H2.out.bel.trans (hT.below H2.out.bel.size (fun k hk => by omega)))
  unfold setEl at hbf HB
  have hcf := hbf.cell
  clear hT hbf c3 c2 f2
  refine bodyPost_ret (v := .agg #[.int .u8 68, .int .u8 0, .string ⟨#[]⟩, .string ⟨#[]⟩, .string ⟨#[]⟩, .int .i64 0, .int .i64 0, .slice none 0 0, .slice none 0 0, .slice apr xr.length acr, .slice none 0 0]) (by simp [results, Try.results100, go_sem, hcf]) rfl ?_
  rw [Hk.out]
  exact ⟨⟨none, 0, none, 0, apr, acr, none, 0⟩, rfl, ⟨SliceS.empty none 0 (by simp [maxLen]), SliceS.empty none 0 (by simp [maxLen]), HL.out.lr.below CeS.still HB.out, SliceS.empty none 0 (by simp [maxLen])⟩, HB.out⟩

set_option maxRecDepth 100000 in
set_option maxHeartbeats 4000000 in
theorem bof_T (S : Nat → Prop) (x : BaV) (a : BaP) (w : World) (h : BaL S w x a) (hk : x.kind = 84) : Calls Try.prog 100 #[baArg x a] w (KeptB S x w) := by
  have HL := Lib.hid h
  have Hk : Hid (keptB x = ⟨84, 0, ⟨#[]⟩, ⟨#[]⟩, ⟨#[]⟩, 0, 0, [], x.cols, [], []⟩) := Lib.hid (by unfold keptB baZero; simp_all)
  unfold KeptB
  generalize keptB x = kx at *
  obtain ⟨xk, xs, xt, xn, xv, xa, xb, xo, xc, xr, xf⟩ := x
  obtain ⟨apo, aco, apc, acc, apr, acr, apf, acf⟩ := a
  clear h
  dsimp only at *
  subst hk
  unfold baArg baCells
  dsimp only
  have H1 := Lib.hid (KbI.start w #[.int .u8 84, .int .u8 xs, .string xt, .string xn, .string xv, .int .i64 xa, .int .i64 xb, .slice apo xo.length aco, .slice apc xc.length acc, .slice apr xr.length acr, .slice apf xf.length acf] #[.int .u8 84, .int .u8 0, .string ⟨#[]⟩, .string ⟨#[]⟩, .string ⟨#[]⟩, .int .i64 0, .int .i64 0, .slice none 0 0, .slice none 0 0, .slice none 0 0, .slice none 0 0])
  unfold baZ at H1
  go_enter Try.func100, Try.ntmps100
  go_upto_region 2 with (fail)
  generalize ((w.alloc (.cells #[.int .u8 84, .int .u8 xs, .string xt, .string xn, .string xv, .int .i64 xa, .int .i64 xb, .slice apo xo.length aco, .slice apc xc.length acc, .slice apr xr.length acr, .slice apf xf.length acf] 33)).alloc (.cells #[.int .u8 0, .int .u8 0, .string ⟨#[]⟩, .string ⟨#[]⟩, .string ⟨#[]⟩, .int .i64 0, .int .i64 0, .slice none 0 0, .slice none 0 0, .slice none 0 0, .slice none 0 0] 33)).alloc (.cells #[.int .u8 84, .int .u8 0, .string ⟨#[]⟩, .string ⟨#[]⟩, .string ⟨#[]⟩, .int .i64 0, .int .i64 0, .slice none 0 0, .slice none 0 0, .slice none 0 0, .slice none 0 0] 33) = w1 at *
  have c1 := H1.out.b1.cell
  have c3 := H1.out.b3.cell
  have f3 := H1.out.b3.frozen
  go_upto_region 20 with fail
  have h2 := (H1.out.set 8 (.slice apc xc.length acc))
  try simp only [List.setIfInBounds_toArray, List.set_cons_succ, List.set_cons_zero] at h2
  have H2 := Lib.hid h2
  clear h2 c1 c3 f3
  generalize (w1.setCell ⟨w.heap.size + 1 + 1, 8, none⟩ (.slice apc xc.length acc)) = w2 at *
  have c3 := H2.out.b3.cell
  have c2 : ∀ i, w2.cell? ⟨w.heap.size + 1, i, none⟩ = (#[.int .u8 0, .int .u8 0, .string ⟨#[]⟩, .string ⟨#[]⟩, .string ⟨#[]⟩, .int .i64 0, .int .i64 0, .slice none 0 0, .slice none 0 0, .slice none 0 0, .slice none 0 0] : Array Value)[i]? := H2.out.b2.cell
  have f2 := H2.out.b2.frozen
  go_wp2_with fail
  have hT := setEl_touch w2 (w.heap.size + 1) (.int .u8 84) (.int .u8 0) (.string ⟨#[]⟩) (.string ⟨#[]⟩) (.string ⟨#[]⟩) (.int .i64 0) (.int .i64 0) (.slice none 0 0) (.slice apc xc.length acc) (.slice none 0 0) (.slice none 0 0)
  have hbf := setEl_blk (.int .u8 84) (.int .u8 0) (.string ⟨#[]⟩) (.string ⟨#[]⟩) (.string ⟨#[]⟩) (.int .i64 0) (.int .i64 0) (.slice none 0 0) (.slice apc xc.length acc) (.slice none 0 0) (.slice none 0 0) H2.out.b2
  have HB := Lib.hid (H2.out.bel.trans (hT.below H2.out.bel.size (fun k hk => by omega)))
  unfold setEl at hbf HB
  have hcf := hbf.cell
  clear hT hbf c3 c2 f2
  refine bodyPost_ret (v := .agg #[.int .u8 84, .int .u8 0, .string ⟨#[]⟩, .string ⟨#[]⟩, .string ⟨#[]⟩, .int .i64 0, .int .i64 0, .slice none 0 0, .slice apc xc.length acc, .slice none 0 0, .slice none 0 0]) (by simp [results, Try.results100, go_sem, hcf]) rfl ?_
  rw [Hk.out]
  exact ⟨⟨none, 0, apc, acc, none, 0, none, 0⟩, rfl, ⟨SliceS.empty none 0 (by simp [maxLen]), HL.out.lc.below CoS.still HB.out, SliceS.empty none 0 (by simp [maxLen]), SliceS.empty none 0 (by simp [maxLen])⟩, HB.out⟩

set_option maxRecDepth 100000 in
set_option maxHeartbeats 4000000 in
theorem bof_t (S : Nat → Prop) (x : BaV) (a : BaP) (w : World) (h : BaL S w x a) (hk : x.kind = 116) : Calls Try.prog 100 #[baArg x a] w (KeptB S x w) := by
  have HL := Lib.hid h
  have Hk : Hid (keptB x = ⟨116, 0, ⟨#[]⟩, ⟨#[]⟩, ⟨#[]⟩, 0, 0, x.oids, [], [], []⟩) := Lib.hid (by unfold keptB baZero; simp_all)
  unfold KeptB
  generalize keptB x = kx at *
  obtain ⟨xk, xs, xt, xn, xv, xa, xb, xo, xc, xr, xf⟩ := x
  obtain ⟨apo, aco, apc, acc, apr, acr, apf, acf⟩ := a
  clear h
  dsimp only at *
  subst hk
  unfold baArg baCells
  dsimp only
  have H1 := Lib.hid (KbI.start w #[.int .u8 116, .int .u8 xs, .string xt, .string xn, .string xv, .int .i64 xa, .int .i64 xb, .slice apo xo.length aco, .slice apc xc.length acc, .slice apr xr.length acr, .slice apf xf.length acf] #[.int .u8 116, .int .u8 0, .string ⟨#[]⟩, .string ⟨#[]⟩, .string ⟨#[]⟩, .int .i64 0, .int .i64 0, .slice none 0 0, .slice none 0 0, .slice none 0 0, .slice none 0 0])
  unfold baZ at H1
  go_enter Try.func100, Try.ntmps100
  go_upto_region 2 with (fail)
  generalize ((w.alloc (.cells #[.int .u8 116, .int .u8 xs, .string xt, .string xn, .string xv, .int .i64 xa, .int .i64 xb, .slice apo xo.length aco, .slice apc xc.length acc, .slice apr xr.length acr, .slice apf xf.length acf] 33)).alloc (.cells #[.int .u8 0, .int .u8 0, .string ⟨#[]⟩, .string ⟨#[]⟩, .string ⟨#[]⟩, .int .i64 0, .int .i64 0, .slice none 0 0, .slice none 0 0, .slice none 0 0, .slice none 0 0] 33)).alloc (.cells #[.int .u8 116, .int .u8 0, .string ⟨#[]⟩, .string ⟨#[]⟩, .string ⟨#[]⟩, .int .i64 0, .int .i64 0, .slice none 0 0, .slice none 0 0, .slice none 0 0, .slice none 0 0] 33) = w1 at *
  have c1 := H1.out.b1.cell
  have c3 := H1.out.b3.cell
  have f3 := H1.out.b3.frozen
  go_upto_region 20 with fail
  have h2 := (H1.out.set 7 (.slice apo xo.length aco))
  try simp only [List.setIfInBounds_toArray, List.set_cons_succ, List.set_cons_zero] at h2
  have H2 := Lib.hid h2
  clear h2 c1 c3 f3
  generalize (w1.setCell ⟨w.heap.size + 1 + 1, 7, none⟩ (.slice apo xo.length aco)) = w2 at *
  have c3 := H2.out.b3.cell
  have c2 : ∀ i, w2.cell? ⟨w.heap.size + 1, i, none⟩ = (#[.int .u8 0, .int .u8 0, .string ⟨#[]⟩, .string ⟨#[]⟩, .string ⟨#[]⟩, .int .i64 0, .int .i64 0, .slice none 0 0, .slice none 0 0, .slice none 0 0, .slice none 0 0] : Array Value)[i]? := H2.out.b2.cell
  have f2 := H2.out.b2.frozen
  go_wp2_with fail
  have hT := setEl_touch w2 (w.heap.size + 1) (.int .u8 116) (.int .u8 0) (.string ⟨#[]⟩) (.string ⟨#[]⟩) (.string ⟨#[]⟩) (.int .i64 0) (.int .i64 0) (.slice apo xo.length aco) (.slice none 0 0) (.slice none 0 0) (.slice none 0 0)
  have hbf := setEl_blk (.int .u8 116) (.int .u8 0) (.string ⟨#[]⟩) (.string ⟨#[]⟩) (.string ⟨#[]⟩) (.int .i64 0) (.int .i64 0) (.slice apo xo.length aco) (.slice none 0 0) (.slice none 0 0) (.slice none 0 0) H2.out.b2
  have HB := Lib.hid (H2.out.bel.trans (hT.below H2.out.bel.size (fun k hk => by omega)))
  unfold setEl at hbf HB
  have hcf := hbf.cell
  clear hT hbf c3 c2 f2
  refine bodyPost_ret (v := .agg #[.int .u8 116, .int .u8 0, .string ⟨#[]⟩, .string ⟨#[]⟩, .string ⟨#[]⟩, .int .i64 0, .int .i64 0, .slice apo xo.length aco, .slice none 0 0, .slice none 0 0, .slice none 0 0]) (by simp [results, Try.results100, go_sem, hcf]) rfl ?_
  rw [Hk.out]
  exact ⟨⟨apo, aco, none, 0, none, 0, none, 0⟩, rfl, ⟨HL.out.lo.below IntU.still HB.out, SliceS.empty none 0 (by simp [maxLen]), SliceS.empty none 0 (by simp [maxLen]), SliceS.empty none 0 (by simp [maxLen])⟩, HB.out⟩

set_option maxRecDepth 100000 in
set_option maxHeartbeats 4000000 in
theorem bof_E (S : Nat → Prop) (x : BaV) (a : BaP) (w : World) (h : BaL S w x a) (hk : x.kind = 69) : Calls Try.prog 100 #[baArg x a] w (KeptB S x w) := by
  have HL := Lib.hid h
  have Hk : Hid (keptB x = ⟨69, 0, ⟨#[]⟩, ⟨#[]⟩, ⟨#[]⟩, 0, 0, [], [], [], x.fields⟩) := Lib.hid (by unfold keptB baZero; simp_all)
  unfold KeptB
  generalize keptB x = kx at *
  obtain ⟨xk, xs, xt, xn, xv, xa, xb, xo, xc, xr, xf⟩ := x
  obtain ⟨apo, aco, apc, acc, apr, acr, apf, acf⟩ := a
  clear h
  dsimp only at *
  subst hk
  unfold baArg baCells
  dsimp only
  have H1 := Lib.hid (KbI.start w #[.int .u8 69, .int .u8 xs, .string xt, .string xn, .string xv, .int .i64 xa, .int .i64 xb, .slice apo xo.length aco, .slice apc xc.length acc, .slice apr xr.length acr, .slice apf xf.length acf] #[.int .u8 69, .int .u8 0, .string ⟨#[]⟩, .string ⟨#[]⟩, .string ⟨#[]⟩, .int .i64 0, .int .i64 0, .slice none 0 0, .slice none 0 0, .slice none 0 0, .slice none 0 0])
  unfold baZ at H1
  go_enter Try.func100, Try.ntmps100
  go_upto_region 2 with (fail)
  generalize ((w.alloc (.cells #[.int .u8 69, .int .u8 xs, .string xt, .string xn, .string xv, .int .i64 xa, .int .i64 xb, .slice apo xo.length aco, .slice apc xc.length acc, .slice apr xr.length acr, .slice apf xf.length acf] 33)).alloc (.cells #[.int .u8 0, .int .u8 0, .string ⟨#[]⟩, .string ⟨#[]⟩, .string ⟨#[]⟩, .int .i64 0, .int .i64 0, .slice none 0 0, .slice none 0 0, .slice none 0 0, .slice none 0 0] 33)).alloc (.cells #[.int .u8 69, .int .u8 0, .string ⟨#[]⟩, .string ⟨#[]⟩, .string ⟨#[]⟩, .int .i64 0, .int .i64 0, .slice none 0 0, .slice none 0 0, .slice none 0 0, .slice none 0 0] 33) = w1 at *
  have c1 := H1.out.b1.cell
  have c3 := H1.out.b3.cell
  have f3 := H1.out.b3.frozen
  go_upto_region 20 with fail
  have h2 := (H1.out.set 10 (.slice apf xf.length acf))
  try simp only [List.setIfInBounds_toArray, List.set_cons_succ, List.set_cons_zero] at h2
  have H2 := Lib.hid h2
  clear h2 c1 c3 f3
  generalize (w1.setCell ⟨w.heap.size + 1 + 1, 10, none⟩ (.slice apf xf.length acf)) = w2 at *
  have c3 := H2.out.b3.cell
  have c2 : ∀ i, w2.cell? ⟨w.heap.size + 1, i, none⟩ = (#[.int .u8 0, .int .u8 0, .string ⟨#[]⟩, .string ⟨#[]⟩, .string ⟨#[]⟩, .int .i64 0, .int .i64 0, .slice none 0 0, .slice none 0 0, .slice none 0 0, .slice none 0 0] : Array Value)[i]? := H2.out.b2.cell
  have f2 := H2.out.b2.frozen
  go_wp2_with fail
  have hT := setEl_touch w2 (w.heap.size + 1) (.int .u8 69) (.int .u8 0) (.string ⟨#[]⟩) (.string ⟨#[]⟩) (.string ⟨#[]⟩) (.int .i64 0) (.int .i64 0) (.slice none 0 0) (.slice none 0 0) (.slice none 0 0) (.slice apf xf.length acf)
  have hbf := setEl_blk (.int .u8 69) (.int .u8 0) (.string ⟨#[]⟩) (.string ⟨#[]⟩) (.string ⟨#[]⟩) (.int .i64 0) (.int .i64 0) (.slice none 0 0) (.slice none 0 0) (.slice none 0 0) (.slice apf xf.length acf) H2.out.b2
  have HB := Lib.hid (H2.out.bel.trans (hT.below H2.out.bel.size (fun k hk => by omega)))
  unfold setEl at hbf HB
  have hcf := hbf.cell
  clear hT hbf c3 c2 f2
  refine bodyPost_ret (v := .agg #[.int .u8 69, .int .u8 0, .string ⟨#[]⟩, .string ⟨#[]⟩, .string ⟨#[]⟩, .int .i64 0, .int .i64 0, .slice none 0 0, .slice none 0 0, .slice none 0 0, .slice apf xf.length acf]) (by simp [results, Try.results100, go_sem, hcf]) rfl ?_
  rw [Hk.out]
  exact ⟨⟨none, 0, none, 0, none, 0, apf, acf⟩, rfl, ⟨SliceS.empty none 0 (by simp [maxLen]), SliceS.empty none 0 (by simp [maxLen]), SliceS.empty none 0 (by simp [maxLen]), HL.out.lf.below FdS.still HB.out⟩, HB.out⟩

set_option maxRecDepth 100000 in
set_option maxHeartbeats 4000000 in
theorem bof_N (S : Nat → Prop) (x : BaV) (a : BaP) (w : World) (h : BaL S w x a) (hk : x.kind = 78) : Calls Try.prog 100 #[baArg x a] w (KeptB S x w) := by
  have HL := Lib.hid h
  have Hk : Hid (keptB x = ⟨78, 0, ⟨#[]⟩, ⟨#[]⟩, ⟨#[]⟩, 0, 0, [], [], [], x.fields⟩) := Lib.hid (by unfold keptB baZero; simp_all)
  unfold KeptB
  generalize keptB x = kx at *
  obtain ⟨xk, xs, xt, xn, xv, xa, xb, xo, xc, xr, xf⟩ := x
  obtain ⟨apo, aco, apc, acc, apr, acr, apf, acf⟩ := a
  clear h
  dsimp only at *
  subst hk
  unfold baArg baCells
  dsimp only
  have H1 := Lib.hid (KbI.start w #[.int .u8 78, .int .u8 xs, .string xt, .string xn, .string xv, .int .i64 xa, .int .i64 xb, .slice apo xo.length aco, .slice apc xc.length acc, .slice apr xr.length acr, .slice apf xf.length acf] #[.int .u8 78, .int .u8 0, .string ⟨#[]⟩, .string ⟨#[]⟩, .string ⟨#[]⟩, .int .i64 0, .int .i64 0, .slice none 0 0, .slice none 0 0, .slice none 0 0, .slice none 0 0])
  unfold baZ at H1
  go_enter Try.func100, Try.ntmps100
  go_upto_region 2 with (fail)
  generalize ((w.alloc (.cells #[.int .u8 78, .int .u8 xs, .string xt, .string xn, .string xv, .int .i64 xa, .int .i64 xb, .slice apo xo.length aco, .slice apc xc.length acc, .slice apr xr.length acr, .slice apf xf.length acf] 33)).alloc (.cells #[.int .u8 0, .int .u8 0, .string ⟨#[]⟩, .string ⟨#[]⟩, .string ⟨#[]⟩, .int .i64 0, .int .i64 0, .slice none 0 0, .slice none 0 0, .slice none 0 0, .slice none 0 0] 33)).alloc (.cells #[.int .u8 78, .int .u8 0, .string ⟨#[]⟩, .string ⟨#[]⟩, .string ⟨#[]⟩, .int .i64 0, .int .i64 0, .slice none 0 0, .slice none 0 0, .slice none 0 0, .slice none 0 0] 33) = w1 at *
  have c1 := H1.out.b1.cell
  have c3 := H1.out.b3.cell
  have f3 := H1.out.b3.frozen
  go_upto_region 20 with fail
  have h2 := (H1.out.set 10 (.slice apf xf.length acf))
  try simp only [List.setIfInBounds_toArray, List.set_cons_succ, List.set_cons_zero] at h2
  have H2 := Lib.hid h2
  clear h2 c1 c3 f3
  generalize (w1.setCell ⟨w.heap.size + 1 + 1, 10, none⟩ (.slice apf xf.length acf)) = w2 at *
  have c3 := H2.out.b3.cell
  have c2 : ∀ i, w2.cell? ⟨w.heap.size + 1, i, none⟩ = (#[.int .u8 0, .int .u8 0, .string ⟨#[]⟩, .string ⟨#[]⟩, .string ⟨#[]⟩, .int .i64 0, .int .i64 0, .slice none 0 0, .slice none 0 0, .slice none 0 0, .slice none 0 0] : Array Value)[i]? := H2.out.b2.cell
  have f2 := H2.out.b2.frozen
  go_wp2_with fail
  have hT := setEl_touch w2 (w.heap.size + 1) (.int .u8 78) (.int .u8 0) (.string ⟨#[]⟩) (.string ⟨#[]⟩) (.string ⟨#[]⟩) (.int .i64 0) (.int .i64 0) (.slice none 0 0) (.slice none 0 0) (.slice none 0 0) (.slice apf xf.length acf)
  have hbf := setEl_blk (.int .u8 78) (.int .u8 0) (.string ⟨#[]⟩) (.string ⟨#[]⟩) (.string ⟨#[]⟩) (.int .i64 0) (.int .i64 0) (.slice none 0 0) (.slice none 0 0) (.slice none 0 0) (.slice apf xf.length acf) H2.out.b2
  have HB := Lib.hid (H2.out.bel.trans (hT.below H2.out.bel.size (fun k hk => by omega)))
  unfold setEl at hbf HB
  have hcf := hbf.cell
  clear hT hbf c3 c2 f2
  refine bodyPost_ret (v := .agg #[.int .u8 78, .int .u8 0, .string ⟨#[]⟩, .string ⟨#[]⟩, .string ⟨#[]⟩, .int .i64 0, .int .i64 0, .slice none 0 0, .slice none 0 0, .slice none 0 0, .slice apf xf.length acf]) (by simp [results, Try.results100, go_sem, hcf]) rfl ?_
  rw [Hk.out]
  exact ⟨⟨none, 0, none, 0, none, 0, apf, acf⟩, rfl, ⟨SliceS.empty none 0 (by simp [maxLen]), SliceS.empty none 0 (by simp [maxLen]), SliceS.empty none 0 (by simp [maxLen]), HL.out.lf.below FdS.still HB.out⟩, HB.out⟩

set_option maxRecDepth 100000 in
set_option maxHeartbeats 4000000 in
theorem bof_O (S : Nat → Prop) (x : BaV) (a : BaP) (w : World) (h : BaL S w x a) (hk : ∀ n ∈ [83, 75, 90, 67, 68, 84, 116, 69, 78], (x.kind == n) = false) : Calls Try.prog 100 #[baArg x a] w (KeptB S x w) := by
  have HL := Lib.hid h
  have g0 := hk 83 (by simp)
  have g1 := hk 75 (by simp)
  have g2 := hk 90 (by simp)
  have g3 := hk 67 (by simp)
  have g4 := hk 68 (by simp)
  have g5 := hk 84 (by simp)
  have g6 := hk 116 (by simp)
  have g7 := hk 69 (by simp)
  have g8 := hk 78 (by simp)
  have Hk : Hid (keptB x = ⟨x.kind, 0, ⟨#[]⟩, ⟨#[]⟩, ⟨#[]⟩, 0, 0, [], [], [], []⟩) := Lib.hid (by unfold keptB baZero; simp_all)
  unfold KeptB
  generalize keptB x = kx at *
  obtain ⟨xk, xs, xt, xn, xv, xa, xb, xo, xc, xr, xf⟩ := x
  obtain ⟨apo, aco, apc, acc, apr, acr, apf, acf⟩ := a
  clear h
  dsimp only at *
  clear hk
  unfold baArg baCells
  dsimp only
  have H1 := Lib.hid (KbI.start w #[.int .u8 xk, .int .u8 xs, .string xt, .string xn, .string xv, .int .i64 xa, .int .i64 xb, .slice apo xo.length aco, .slice apc xc.length acc, .slice apr xr.length acr, .slice apf xf.length acf] #[.int .u8 xk, .int .u8 0, .string ⟨#[]⟩, .string ⟨#[]⟩, .string ⟨#[]⟩, .int .i64 0, .int .i64 0, .slice none 0 0, .slice none 0 0, .slice none 0 0, .slice none 0 0])
  unfold baZ at H1
  go_enter Try.func100, Try.ntmps100
  go_upto_region 2 with (fail)
  generalize ((w.alloc (.cells #[.int .u8 xk, .int .u8 xs, .string xt, .string xn, .string xv, .int .i64 xa, .int .i64 xb, .slice apo xo.length aco, .slice apc xc.length acc, .slice apr xr.length acr, .slice apf xf.length acf] 33)).alloc (.cells #[.int .u8 0, .int .u8 0, .string ⟨#[]⟩, .string ⟨#[]⟩, .string ⟨#[]⟩, .int .i64 0, .int .i64 0, .slice none 0 0, .slice none 0 0, .slice none 0 0, .slice none 0 0] 33)).alloc (.cells #[.int .u8 xk, .int .u8 0, .string ⟨#[]⟩, .string ⟨#[]⟩, .string ⟨#[]⟩, .int .i64 0, .int .i64 0, .slice none 0 0, .slice none 0 0, .slice none 0 0, .slice none 0 0] 33) = w1 at *
  have c1 := H1.out.b1.cell
  have c3 := H1.out.b3.cell
  have f3 := H1.out.b3.frozen
  go_upto_region 20 with fail
  have h2 := H1.out
  try simp only [List.setIfInBounds_toArray, List.set_cons_succ, List.set_cons_zero] at h2
  have H2 := Lib.hid h2
  clear h2 c1 c3 f3
  generalize w1 = w2 at *
  have c3 := H2.out.b3.cell
  have c2 : ∀ i, w2.cell? ⟨w.heap.size + 1, i, none⟩ = (#[.int .u8 0, .int .u8 0, .string ⟨#[]⟩, .string ⟨#[]⟩, .string ⟨#[]⟩, .int .i64 0, .int .i64 0, .slice none 0 0, .slice none 0 0, .slice none 0 0, .slice none 0 0] : Array Value)[i]? := H2.out.b2.cell
  have f2 := H2.out.b2.frozen
  go_wp2_with fail
  have hT := setEl_touch w2 (w.heap.size + 1) (.int .u8 xk) (.int .u8 0) (.string ⟨#[]⟩) (.string ⟨#[]⟩) (.string ⟨#[]⟩) (.int .i64 0) (.int .i64 0) (.slice none 0 0) (.slice none 0 0) (.slice none 0 0) (.slice none 0 0)
  have hbf := setEl_blk (.int .u8 xk) (.int .u8 0) (.string ⟨#[]⟩) (.string ⟨#[]⟩) (.string ⟨#[]⟩) (.int .i64 0) (.int .i64 0) (.slice none 0 0) (.slice none 0 0) (.slice none 0 0) (.slice none 0 0) H2.out.b2
  have HB := Lib.hid (H2.out.bel.trans (hT.below H2.out.bel.size (fun k hk => by omega)))
  unfold setEl at hbf HB
  have hcf := hbf.cell
  clear hT hbf c3 c2 f2
  refine bodyPost_ret (v := .agg #[.int .u8 xk, .int .u8 0, .string ⟨#[]⟩, .string ⟨#[]⟩, .string ⟨#[]⟩, .int .i64 0, .int .i64 0, .slice none 0 0, .slice none 0 0, .slice none 0 0, .slice none 0 0]) (by simp [results, Try.results100, go_sem, hcf]) rfl ?_
  rw [Hk.out]
  exact ⟨⟨none, 0, none, 0, none, 0, none, 0⟩, rfl, ⟨SliceS.empty none 0 (by simp [maxLen]), SliceS.empty none 0 (by simp [maxLen]), SliceS.empty none 0 (by simp [maxLen]), SliceS.empty none 0 (by simp [maxLen])⟩, HB.out⟩

theorem bof_any (S : Nat → Prop) (x : BaV) (a : BaP) (w : World) (h : BaL S w x a) : Calls Try.prog 100 #[baArg x a] w (KeptB S x w) := by
  rcases kindB_cases x.kind with hk | hk | hk | hk | hk | hk | hk | hk | hk | hk
  · exact bof_S S x a w h hk
  · exact bof_K S x a w h hk
  · exact bof_Z S x a w h hk
  · exact bof_C S x a w h hk
  · exact bof_D S x a w h hk
  · exact bof_T S x a w h hk
  · exact bof_t S x a w h hk
  · exact bof_E S x a w h hk
  · exact bof_N S x a w h hk
  · exact bof_O S x a w h hk

end Go.Proofs.Ythhebfknikfleaa

