/-
  The contracts of slices.Grow (of nil) and slices.Concat at bytes.
-/
import Derived.Test.YthhebfknikfleaaGreatPackA
import Derived.Lib.AppendZerosOnto
namespace Go.Proofs.YthhebfknikfleaaGreat
open Go.RowKit

theorem Tryz.under_int : Tryz.prog.underlying 3 = some (.int .i64) := Tryz.underlying3

/-- make([]byte, n) appended to nil. -/
theorem run_grow_nil (n : Nat) (h0 : 0 < n) (hn : n ≤ 1000000000) (ty : TypeId) (w : World) :
    ∃ c cs, n ≤ c ∧ c ≤ maxLen ∧ cs.size = c ∧ (Builtin.append_ #[25, 3] ty #[.slice none 0 0, .int .i64 (n : Int)]).run Tryz.prog w = .ok (.slice (some ⟨w.heap.size, 0, none⟩) n c) (w.drew.alloc (.cells cs 5)) := by
  obtain ⟨i, hi, hz, hz1, hz2⟩ := info_parts Tryz.info5
  have hge := grownCap_ge w (0 + n) 0 5
  have hcm := grownCap_le_maxLen w (0 + n) 0 5 (by simp only [maxLen]; omega)
  have hf : (Builtin.firstCells i.size 0 (.slice none 0 0)).run Tryz.prog w.drew = .ok ([] : List Value).toArray w.drew := by simp [Builtin.firstCells]
  have hr := Lib.run_append_grow_zeros (P := Tryz.prog) w 25 3 ty 5 i (.int .u8 0) .i64 .i64 Tryz.underlying25 Tryz.underlying3 hi hz none 0 0 [] hf n h0 (by omega) (by omega) (by omega) (by rw [hz2]; omega)
    (by rw [Nat.zero_add, nextslicecap_zero (by omega), hz2]; omega)
  rw [Nat.zero_add] at hr hge hcm
  have hc1 : (Value.int .u8 0).cells.size = 1 := rfl
  refine ⟨_, _, hge, hcm, ?_, hr⟩
  rw [Array.size_append, Array.size_append, size_zeroCells, size_zeroCells, hc1]
  simp
  omega

/-- The same as a step of the walk. -/
theorem wpList_grow_nil {ops : Array Oper} {rest : List Oper} {o : Oper} {a : Act} {Q : Exit → Act → World → Prop} (w : World) (hgd : o.guard = none) (s y : Operand)
    (ho : o.op = .call { callee := .builtin .append, args := #[s, y], argTypes := #[25, 3] }) (n : Nat) (hs : a.eval s = .slice none 0 0) (hy : a.eval y = .int .i64 (n : Int)) (h0 : 0 < n) (hn : n ≤ 1000000000)
    (h : ∀ c w', n ≤ c → c ≤ 1152921504606846976 * 8 - 1 → OwnBR w.heap.size w' (.slice (some ⟨w.heap.size, 0, none⟩) 0 c) [] → Below w.heap.size w w' → wpList Tryz.prog ops Q rest (a.put o.dst (.slice (some ⟨w.heap.size, 0, none⟩) n c)) w') :
    wpList Tryz.prog ops Q (o :: rest) a w := by
  refine wpList_plain hgd fun K hK => ?_
  obtain ⟨c, cs, h1, h2, h3, hrun⟩ := run_grow_nil n h0 hn o.type w
  unfold Oper.wp
  simp [execOp, ho, resolve, invoke, builtin, hs, hy, hrun, Result.andThen]
  have hg : w.grownBy (w.drew.alloc (.cells cs 5)) none := ⟨rfl, rfl, rfl, by simp, fun k hk _ => Below.heap_alloc w.drew _ k hk⟩
  refine hK _ _ (h c _ h1 (by unfold maxLen at h2; omega) ⟨by simp [bytesV], .inr ⟨_, c, cs, rfl, by omega, Nat.le_refl _, heap_alloc_new w.drew _, by simp, h2, by omega, by simp [bytesV]⟩⟩ (Below.of_row hg (Nat.le_refl _) (fun k hk => by cases hk)))

theorem grow_any (n : Nat) (hn : n ≤ 1000000000) (w : World) :
    Calls Tryz.prog 91 #[.slice none 0 0, .int .i64 (n : Int)] w fun e w' =>
      ∃ v, e = .returned v ∧ OwnBR w.heap.size w' v [] ∧ Below w.heap.size w w' := by
  have hneg : ¬ ((n : Int) < 0) := by omega
  by_cases h0 : n = 0
  · subst h0
    go_enter Tryz.func91, Tryz.ntmps91
    go_wp2
    go_ret
    exact ⟨_, rfl, OwnBR.empty _ _ _, Below.refl _ _⟩
  · have hpos : 0 < n := by omega
    go_enter Tryz.func91, Tryz.ntmps91
    go_wp2_with (at_builtin; refine wpList_grow_nil _ rfl (.tmp 20) (.tmp 21) rfl n rfl rfl hpos hn ?_; intro c w1 h1 h2 ho1 hb1; have Ho1 := Lib.hid ho1; have Hb1 := Lib.hid hb1; clear ho1 hb1)
    go_ret
    exact ⟨_, rfl, Ho1.out, Hb1.out⟩

/-- The bytes of lists up to the k-th. -/
def joined (ls : List (List UInt8)) (k : Nat) : List UInt8 := (ls.take k).flatten

theorem joined_succ (ls : List (List UInt8)) (k : Nat) (l : List UInt8) (h : ls[k]? = some l) : joined ls (k + 1) = joined ls k ++ l := by
  have hk : k < ls.length := (List.getElem?_eq_some_iff.1 h).1
  have e : ls[k] = l := (List.getElem?_eq_some_iff.1 h).2
  unfold joined
  rw [List.take_succ_eq_append_getElem hk, List.flatten_append, e]
  simp

theorem joined_le (ls : List (List UInt8)) (k : Nat) : (joined ls k).length ≤ ls.flatten.length := by
  have h : ls.flatten = (ls.take k).flatten ++ (ls.drop k).flatten := by rw [← List.flatten_append, List.take_append_drop]
  unfold joined
  rw [h, List.length_append]
  omega

theorem joined_all (ls : List (List UInt8)) : joined ls ls.length = ls.flatten := by unfold joined; rw [List.take_length]

set_option maxHeartbeats 1000000 in
theorem concat_any (p : Option Addr) (n c : Nat) (ls : List (List UInt8)) (S : Nat → Prop) (w : World) (h : SliceS 1 BytesS S w [.slice p n c] ls) (hl : ls.flatten.length ≤ 1000000000) :
    Calls Tryz.prog 31 #[.slice p n c] w fun e w' =>
      ∃ v, e = .returned v ∧ OwnBR w.heap.size w' v ls.flatten ∧ Below w.heap.size w w' := by
  have H := Lib.hid h
  obtain ⟨p', c', css, h1, hlc, hcm, _, _⟩ := h
  simp only [List.cons.injEq, Value.slice.injEq, and_true] at h1
  obtain ⟨rfl, rfl, rfl⟩ := h1
  unfold maxLen at hcm
  go_enter Tryz.func31, Tryz.ntmps31
  go_wp2
  go_loop [3, 5, 11] (fun s _ i => ∃ k : Nat, k ≤ ls.length ∧ i = .int .i64 k ∧ s = .int .i64 ((joined ls k).length : Nat)) (fun _ _ i => ls.length - (intOf i).toNat)
  case atStart => exact ⟨0, Nat.zero_le _, rfl, rfl⟩
  case round =>
    obtain ⟨k, hk, rfl, rfl⟩ := hrel
    have hj := joined_le ls k
    by_cases hlt : k < ls.length
    · obtain ⟨b, o, cs, rfl, _, _, _, hc, hr⟩ := H.out.elem (by omega) k ls[k] (List.getElem?_eq_getElem hlt)
      have hs := joined_succ ls k ls[k] (List.getElem?_eq_getElem hlt)
      have hj1 := joined_le ls (k + 1)
      generalize ls[k] = l at hr hs
      obtain ⟨q, d, rfl, hq1, hq2, _, _⟩ := hr
      have hs' := congrArg List.length hs
      rw [List.length_append] at hs'
      have Hs := Lib.hid hs'
      have hsum : (joined ls k).length + l.length ≤ 1000000000 := by omega
      unfold maxLen at hq2
      have hcell := hc 0 _ rfl
      simp only [Nat.mul_one, Nat.add_zero] at hcell
      clear hs hs' hc hj1
      go_wp2
      go_round
      case rel => exact ⟨k + 1, by omega, by go_num, by rw [Hs.out]; go_num⟩
      case measure => simp [intOf]; omega
    · obtain rfl : k = ls.length := by omega
      have HJ := Lib.hid (joined_all ls)
      go_wp2_with fail
      refine (grow_any _ (by omega) w).mono ?_
      rintro e w1 ⟨v1, rfl, ho1, hb1⟩
      have Ho1 := Lib.hid ho1
      have Hb1 := Lib.hid hb1
      clear ho1 hb1
      go_wp2_with fail
      go_loopw [6, 8, 27] (fun v _ i wr => ∃ k : Nat, k ≤ ls.length ∧ i = .int .i64 k ∧ OwnBR w.heap.size wr v (joined ls k) ∧ Below w.heap.size w wr) (fun _ _ i _ => ls.length - (intOf i).toNat)
      case atStart => exact ⟨0, Nat.zero_le _, rfl, Ho1.out, Hb1.out⟩
      case round =>
        clear Ho1 Hb1
        obtain ⟨k, hk, rfl, ho, hb⟩ := hrel
        have hbs := hb.size
        have Ho := Lib.hid ho
        have Hb := Lib.hid hb
        have hj := joined_le ls k
        clear ho hb
        by_cases hlt : k < ls.length
        · obtain ⟨b, o, cs, rfl, _, hbl, _, hc, hr⟩ := H.out.elem (by omega) k ls[k] (List.getElem?_eq_getElem hlt)
          have hs := joined_succ ls k ls[k] (List.getElem?_eq_getElem hlt)
          have hj1 := joined_le ls (k + 1)
          generalize ls[k] = l at hr hs
          have Hr := Lib.hid (hr.below Hb.out)
          obtain ⟨q, d, rfl, hq1, hq2, _, _⟩ := hr
          have Hs := Lib.hid hs
          have hsum : (joined ls k).length + l.length ≤ 1000000000 := by rw [hs, List.length_append] at hj1; omega
          unfold maxLen at hq2
          have hcell := (Hb.out.cell (p := ⟨b, o + k * 1 + 0, none⟩) hbl).trans (hc 0 _ rfl)
          simp only [Nat.mul_one, Nat.add_zero] at hcell
          clear hs hc hj1
          go_wp2_with (at_builtin; refine step_appendBR _ rfl _ _ rfl w.heap.size _ _ rfl Ho.out _ l _ _ rfl rfl Hr.out.parts.2.2.2 (by omega) hbs ?_; intro v2 w2 ho2 hg2 _; have Ho2 := Lib.hid ho2; have Hb2 := Lib.hid (Hb.out.trans (Below.of_row hg2 hbs (fun k hk => (Ho.out.row k hk).1))); clear ho2 hg2)
          go_roundw
          case rel => exact ⟨k + 1, by omega, by go_num, by rw [Hs.out]; exact Ho2.out, Hb2.out⟩
          case measure => simp [intOf]; omega
        · obtain rfl : k = ls.length := by omega
          go_wp2
          go_ret
          exact ⟨_, rfl, by rw [← HJ.out]; exact Ho.out, Hb.out⟩

end Go.Proofs.YthhebfknikfleaaGreat
