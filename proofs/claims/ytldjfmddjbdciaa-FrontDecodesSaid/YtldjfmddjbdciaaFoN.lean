/-
  Messages of clients (layer 6): the program's writer: text, list, row.
-/
import Derived.Test.YtldjfmddjbdciaaFoM
import Derived.Test.YtldjfmddjbdciaaIdxS
namespace Go.Proofs.Ytldjfmddjbdciaa
open Go.RowKit
set_option linter.unusedVariables false
set_option linter.unusedSimpArgs false

/-- A call of a Go function as a step of a region that draws its order. -/
theorem rgn_callF {ops : Array Oper} {o : Oper} {a : Act} {w : World} {K : Act → World → Prop} {Q : Exit → Act → World → Prop} {F : Prop} (hgd : o.guard = none) (f : FuncId) (vs : Array Value) (R : Ending → World → Prop) (hC : Calls Try.prog f vs w R)
    (hr : (execOp a.eval o).run Try.prog w = .ok (.enter f vs) w) (h : ∀ e w', R e w' → ∃ v, e = .returned v ∧ K (a.put o.dst v) w') :
    if Region.wanted o (yielded ops a.tmps) = true then Oper.wp Try.prog o a w K Q else F := by
  have hw : Region.wanted o (yielded ops a.tmps) = true := by simp [Region.wanted, hgd]
  rw [if_pos hw]
  unfold Oper.wp
  rw [hr, Oper.upon_enter]
  refine hC.mono ?_
  intro e w' hR
  obtain ⟨v, rfl, hK⟩ := h e w' hR
  exact hK
theorem bel_drew (w : World) : Below w.heap.size w w.drew := ((Touch.refl (fun _ => False) w).drew).below (Nat.le_refl _) (fun _ e => e.elim)

/-- A writer in memory. -/
structure WrO (B : Nat) (w : World) (wb : Nat) (v : Value) (l : List UInt8) : Prop where
  b : Blk w wb 75 #[v]
  own : OwnBR B w v l
  no : rowOf v ≠ some wb
  ge : B ≤ wb
/-- What a writer's step turns. -/
def wrT (wb : Nat) (v : Value) (k : Nat) : Prop := k = wb ∨ rowOf v = some k
/-- Where the row lies behind it. -/
def wrN (w : World) (v v' : Value) : Prop := ∀ k, rowOf v' = some k → rowOf v = some k ∨ w.heap.size ≤ k
section
variable {B : Nat} {w w' : World} {wb : Nat} {v v' : Value} {l l' : List UInt8}
theorem WrO.touch {p : Nat → Prop} (h : WrO B w wb v l) (ht : Touch p w w') (h1 : ¬ p wb) (h2 : ∀ k, rowOf v = some k → ¬ p k) : WrO B w' wb v l := ⟨ht.blk h.b h1, h.own.touch ht h2, h.no, h.ge⟩
theorem WrO.below (h : WrO B w wb v l) (hb : Below w.heap.size w w') : WrO B w' wb v l := ⟨h.b.below hb h.b.lt, h.own.below hb, h.no, h.ge⟩
theorem wrT_below {w0 : World} (ht : Touch (wrT wb v) w w') (h : WrO B w wb v l) {C : Nat} (hC : C ≤ w.heap.size) (hB : C ≤ B) : Below C w w' :=
  ht.below hC (fun k hk => by
    have h1 := h.ge
    rcases hk with rfl | e
    · omega
    · have := (h.own.row k e).1; omega)
/-- A store of a new row into a writer. -/
theorem WrO.store (h : WrO B w wb v l) {u : Value} (ho : OwnBR B w u l') (hn : rowOf u ≠ some wb) : WrO B (w.setCell ⟨wb, 0, none⟩ u) wb u l' := by
  have hT : Touch (fun k => k = wb) w (w.setCell ⟨wb, 0, none⟩ u) := (Touch.refl (fun k => k = wb) w).setCell (x := ⟨wb, 0, none⟩) (fun _ => rfl) _
  refine ⟨?_, ho.touch hT (fun k hk e => hn (by rw [hk, e])), hn, h.ge⟩
  have := h.b.set_ 0 u
  simpa using this
end

/-- Bytes with the first texts behind them. -/
def textP (b : List UInt8) (ss : List ByteArray) (k : Nat) : List UInt8 := (ss.take k).foldl strB b
theorem textP_succ {b : List UInt8} {ss : List ByteArray} {k : Nat} (hk : k < ss.length) : textP b ss (k + 1) = strB (textP b ss k) ss[k] := by
  unfold textP
  rw [List.take_succ_eq_append_getElem hk, List.foldl_append]
  rfl
theorem textP_all (b : List UInt8) (ss : List ByteArray) : textP b ss ss.length = ss.foldl strB b := by
  unfold textP
  rw [List.take_length]
theorem textP_len (b : List UInt8) (ss : List ByteArray) (m : Nat) (hm : ∀ s ∈ ss, s.size ≤ m) : ∀ k, k ≤ ss.length → (textP b ss k).length ≤ b.length + (m + 1) * k
  | 0, _ => by simp [textP]
  | k + 1, hk => by
    have ih := textP_len b ss m hm k (by omega)
    rw [textP_succ (by omega), strB_len]
    have := hm ss[k] (List.getElem_mem _)
    rw [Nat.mul_add]
    omega

/-- What the writer's methods leave. -/
def WrR (B : Nat) (w : World) (wb : Nat) (v : Value) (l' : List UInt8) (e : Ending) (w' : World) : Prop :=
  e = .returned (.tuple #[]) ∧ ∃ v', WrO B w' wb v' l' ∧ wrN w v v' ∧ Touch (wrT wb v) w w'

set_option maxRecDepth 100000 in
set_option maxHeartbeats 4000000 in
theorem wtext_any (B wb : Nat) (v : Value) (l : List UInt8) (S : Nat → Prop) (p : Option Addr) (n c : Nat) (ss : List ByteArray) (w : World) (h : WrO B w wb v l) (hB : B ≤ w.heap.size) (hx : SliceS 1 StrU S w [.slice p n c] ss) (hS : ∀ k, k < w.heap.size → S k → ¬ wrT wb v k)
    (hl : l.length ≤ 1000000) (hsl : ss.length ≤ 10) (hm : ∀ s ∈ ss, s.size ≤ 100000) :
    Calls Try.prog 50 #[.pointer (some ⟨wb, 0, none⟩), .slice p n c] w (WrR B w wb v (ss.foldl strB l)) := by
  obtain ⟨rfl, hlc, hcm⟩ := hx.len
  unfold maxLen at hcm
  have H := Lib.hid h
  have Hx := Lib.hid hx
  have HS := Lib.hid hS
  have Hall := Lib.hid (textP_all l ss)
  have Hlen := Lib.hid (fun k hk => textP_len l ss 100000 hm k hk)
  have Hm := Lib.hid hm
  have hwl := h.b.lt
  have hrow := h.own.row
  have Hrow := Lib.hid hrow
  clear h hx hS hm hrow
  go_enter Try.func50, Try.ntmps50
  go_wp2_with fail
  go_loopw [8] (fun i wr => ∃ (k : Nat) (u : Value), k ≤ ss.length ∧ i = .int .i64 k ∧ WrO B wr wb u (textP l ss k) ∧ wrN w v u ∧ Touch (wrT wb v) w wr) (fun i _ => ss.length - (intOf i).toNat)
  case atStart => exact ⟨0, v, Nat.zero_le _, rfl, H.out, (fun k e => .inl e), Touch.refl _ _⟩
  case round =>
    obtain ⟨k, u, hk, rfl, hw, hn, hT⟩ := hrel
    have hsz := hT.size
    have HW := Lib.hid hw
    have HN := Lib.hid hn
    have HT := Lib.hid hT
    by_cases hlt : k < ss.length
    · have hxr := (SliceS.still StrU.still) _ _ _ _ _ _ Hx.out (Kept.touch (S' := S) hT (fun k hk hs => ⟨hs, HS.out k hk hs⟩))
      obtain ⟨b, o, rfl, _, hbl, c0⟩ := str_at hxr hlt
      have hlk := Hlen.out k hk
      have hmk := Hm.out ss[k] (List.getElem_mem hlt)
      have Hstep := Lib.hid (textP_succ (b := l) hlt)
      have hcw := hw.b.cell
      have hBr : B ≤ wr.heap.size := by omega
      clear hw hn hT hxr
      generalize ss[k] = s at *
      have hlti : (k : Int) < (ss.length : Int) := by omega
      have hl9 : (textP l ss k).length ≤ 3000000 := by
        have : 100001 * k ≤ 100001 * 10 := Nat.mul_le_mul (Nat.le_refl _) (by omega)
        omega
      obtain ⟨Q, hQ⟩ : ∃ Q, textP l ss k = Q := ⟨_, rfl⟩
      rw [hQ] at HW Hstep hl9
      have hsd : s.data.toList.length ≤ 100000 := by rw [← size_data]; exact hmk
      have hr2 : (Q ++ s.data.toList).length + 1 ≤ 4000000 := by rw [List.length_append]; omega
      clear hlk hQ
      go_wp2_with (first
        | (at_builtin; refine step_appendStr _ rfl (.tmp 16) (.tmp 17) rfl B u Q rfl HW.out.own s rfl (by omega) hBr ?_; intro v5 w5 ho5 hg5 hn5; have Ho5 := Lib.hid ho5; have Hg5 := Lib.hid hg5; have Hn5 := Lib.hid hn5; have hz5 := hg5.size; have HW5 : Hid (Blk w5 wb 75 #[u]) := Lib.hid (HW.out.b.grown hg5 (fun e => HW.out.no e.symm)); clear ho5 hg5 hn5)
        | (at_builtin; refine step_appendBR _ rfl (.tmp 18) (.tmp 19) rfl B v5 _ rfl (Ho5.out.alloc _) (some ⟨w5.heap.size, 0, none⟩) [0] 1 1 rfl rfl (BytesIn.new1 w5 0 0 _ rfl) (by rw [List.length_singleton]; omega) (by rw [World.size_alloc]; omega) ?_; intro v6 w6 ho6 hg6 hn6; obtain ⟨n6, p6, c6, hv6⟩ : ∃ n p c, v6 = .slice p n c := (by obtain ⟨p, c, h, _⟩ := OwnBR.slice ho6; exact ⟨_, p, c, h⟩); subst hv6; have Ho6 := Lib.hid ho6; have Hg6 := Lib.hid hg6; have Hn6 := Lib.hid hn6; have HW6 : Hid (Blk w6 wb 75 #[u]) := Lib.hid ((HW5.out.alloc _).grown hg6 (fun e => by rcases Hn5.out _ e.symm with h | h; exact HW.out.no h; have := HW.out.b.lt; omega)); have hcw6 := HW6.out.cell; have hfw6 := HW6.out.frozen; clear ho6 hg6 hn6))
      have hnw : rowOf (.slice p6 n6 c6) ≠ some wb := fun e => by
        rcases Hn6.out _ e with h | h
        · rcases Hn5.out _ h with h2 | h2
          · exact HW.out.no h2
          · have := HW.out.b.lt; omega
        · have := HW.out.b.lt
          rw [World.size_alloc] at h
          omega
      have hfin : WrO B (w6.setCell ⟨wb, 0, none⟩ (.slice p6 n6 c6)) wb (.slice p6 n6 c6) (textP l ss (k + 1)) := by
        rw [Hstep.out]
        have hT : Touch (fun k => k = wb) w6 (w6.setCell ⟨wb, 0, none⟩ (.slice p6 n6 c6)) := (Touch.refl (fun k => k = wb) w6).setCell (x := ⟨wb, 0, none⟩) (fun _ => rfl) _
        refine ⟨?_, Ho6.out.touch hT (fun k hk e => hnw (by rw [hk, e])), hnw, HW.out.ge⟩
        have := HW6.out.set_ 0 (.slice p6 n6 c6)
        simpa using this
      have hrowu : ∀ k, rowOf u = some k → rowOf v = some k ∨ w.heap.size ≤ k := HN.out
      have hnn : wrN w v (.slice p6 n6 c6) := fun k e => by
        rcases Hn6.out _ e with h | h
        · rcases Hn5.out _ h with h2 | h2
          · exact hrowu k h2
          · right; omega
        · rw [World.size_alloc] at h
          right; omega
      have hTT : Touch (wrT wb v) w (w6.setCell ⟨wb, 0, none⟩ (.slice p6 n6 c6)) := by
        refine ((((HT.out.then (Touch.of_row Hg5.out) (fun i hi e => ?_)).alloc _).then (Touch.of_row Hg6.out) (fun i hi e => ?_)).setCell (x := ⟨wb, 0, none⟩) (fun _ => .inl rfl) _)
        · rcases hrowu i e.symm with h | h
          · exact .inr h
          · omega
        · rcases Hn5.out i e.symm with h | h
          · rcases hrowu i h with h2 | h2
            · exact .inr h2
            · omega
          · omega
      have HF := Lib.hid (And.intro hfin (And.intro hnn hTT))
      clear hfin hnn hTT hrowu hnw hcw hcw6 hfw6
      go_wp2_with fail
      go_roundw
      case rel => exact ⟨k + 1, _, by omega, by go_num, HF.out.1, HF.out.2.1, HF.out.2.2⟩
      case measure => simp [intOf]; omega
    · obtain rfl : k = ss.length := by omega
      rw [Hall.out] at hw
      have HWe := Lib.hid hw
      clear hw hn hT HW
      go_wp2_with fail
      go_end0
      exact ⟨rfl, u, HWe.out, HN.out, HT.out⟩

end Go.Proofs.Ytldjfmddjbdciaa
