/-
  The contracts of Parse and of the document's, and of the statements' own helpers (layer 42).
-/
import Derived.Test.YtpdkoijgemgaiaaEvD
import Derived.Test.YtpdkoijgemgaiaaEvE
namespace Go.Proofs.Ytpdkoijgemgaiaa
open Go.RowKit

theorem OwnS.below {α : Type} {B : Nat} {e : TypeId} {n : Nat} {R : Rd α} {S : Nat → Prop} {w w' : World} {v : Value} {xs : List α} (hR : Still R) (h : OwnS B e n R S w v xs) (hb : Below w.heap.size w w') : OwnS B e n R S w' v xs :=
  h.touch hR (Touch.of_below (p := fun _ => False) hb) (fun _ _ e => e) (fun _ _ hs _ => ⟨hs, fun e => e⟩)

/-- Events of the call's own. -/
abbrev OwnE (B : Nat) (w : World) (v : Value) (xs : List EvV) : Prop := OwnS B 85 4 EvS (fun _ => True) w v xs

theorem evS_box {S : Nat → Prop} {w : World} {x : EvV} {p : Option Addr} {c : Nat} (h : BytesS S w [.slice p x.bytes.length c] x.bytes) : EvS S w [.int .i64 x.kind, .int .i64 x.who, .int .i64 x.n, .slice p x.bytes.length c] x := ⟨p, c, rfl, h⟩

def lenV : Value → Nat
  | .slice _ n _ => n
  | _ => 0

/-- One event more. -/
theorem step_appendE {ops : Array Oper} {rest : List Oper} {o : Oper} {a : Act} {Q : Exit → Act → World → Prop} (w : World) (hgd : o.guard = none) (s y : Operand)
    (ho : o.op = .call { callee := .builtin .append, args := #[s, y], argTypes := #[58, 58] })
    (B : Nat) (v : Value) (xs : List EvV) (hsv : a.eval s = v) (hown : OwnE B w v xs) (p : Option Addr) (x : EvV) (hx : a.eval y = .slice p 1 1) (hs : SliceS 4 EvS (fun k => True ∧ rowOf v ≠ some k) w [.slice p 1 1] [x])
    (hroom : xs.length ≤ 1000000000) (hbase : B ≤ w.heap.size)
    (h : ∀ v' w', OwnE B w' v' (xs ++ [x]) → w.grownBy w' (rowOf v) → (∀ k, rowOf v' = some k → rowOf v = some k ∨ w.heap.size ≤ k) → wpList Try.prog ops Q rest (a.put o.dst v') w') : wpList Try.prog ops Q (o :: rest) a w :=
  wpList_append_S w hgd s y 58 58 ho B 85 85 4 48 Try.underlying58 Try.underlying58 info_ev EvS EvS.still EvS.one (fun _ => True) v xs hsv hown p 1 1 [x] hx hs
    (by simp; omega) (by simp [maxLen]; omega) hbase h

/-- A new event, as a slice of one. -/
theorem new1E {B : Nat} {w w' : World} {v : Value} {xs : List EvV} {x : EvV} {p : Option Addr} {c : Nat} (ho : OwnE B w v xs) (hsz : w.heap.size ≤ w'.heap.size) (hb : BytesS (fun k => w.heap.size ≤ k ∨ k < B) w' [.slice p x.bytes.length c] x.bytes) :
    SliceS 4 EvS (fun k => True ∧ rowOf v ≠ some k) (w'.alloc (.cells #[.int .i64 x.kind, .int .i64 x.who, .int .i64 x.n, .slice p x.bytes.length c] 85)) [.slice (some ⟨w'.heap.size, 0, none⟩) 1 1] [x] :=
  SliceS.new1 EvS.still w' 85 #[.int .i64 x.kind, .int .i64 x.who, .int .i64 x.n, .slice p x.bytes.length c] x (evS_box hb) rfl (fun k hk hs => ⟨trivial, fun e => by have := ho.row k e; omega⟩) ⟨trivial, fun e => by have := ho.row _ e; omega⟩

theorem firstL_len {l r : List UInt8} {x : EvV} (h : firstL l = some (x, r)) : r.length + 1 ≤ l.length := firstL_lt h

set_option maxRecDepth 100000 in
set_option maxHeartbeats 2000000 in
theorem parse_any (S : Nat → Prop) (p : Option Addr) (l : List UInt8) (c : Nat) (w : World) (hx : BytesS S w [.slice p l.length c] l) (hl : l.length ≤ 1000000000) :
    Calls Try.prog 39 #[.slice p l.length c] w fun e w' => ∃ v, e = .returned v ∧ OwnE w.heap.size w' v (parseL l) ∧ Below w.heap.size w w' := by
  have Hx := Lib.hid (hx.weak (S' := fun k => k < w.heap.size) (fun k hk _ => hk))
  clear hx
  go_enter Try.func39, Try.ntmps39
  go_wp2_with fail
  go_loopw [0, 3] (fun bv v wr => ∃ q l' d evs, bv = .slice q l'.length d ∧ BytesS (fun k => k < w.heap.size) wr [.slice q l'.length d] l' ∧ OwnE w.heap.size wr v evs ∧ evs ++ parseL l' = parseL l ∧ evs.length + l'.length ≤ l.length ∧ Below w.heap.size w wr) (fun bv _ _ => lenV bv)
  case atStart => exact ⟨p, l, c, [], rfl, Hx.out, OwnS.empty _, rfl, by simp, Below.refl _ _⟩
  case round =>
    obtain ⟨q, l', d, evs, rfl, hq, ho, he, hlen, hb⟩ := hrel
    have hbs := hb.size
    have Hq := Lib.hid hq
    have Ho := Lib.hid ho
    have He := Lib.hid he
    have Hb := Lib.hid hb
    clear hq ho he hb
    go_wp2_with fail
    refine (first_any _ q l' d wr Hq.out (by omega)).mono ?_
    rintro e w1 ⟨hb1, hr⟩
    have hs1 := hb1.size
    have Hb1 := Lib.hid (Hb.out.trans (hb1.mono hbs))
    rcases hr with ⟨hn, a, b, d', q1, m1, f1, q2, m2, f2, rfl⟩ | ⟨x, r, q1, f1, q2, f2, hsome, rfl, hxb, hrb⟩
    · have Hfin : Hid (parseL l = evs) := Lib.hid (by rw [← He.out, parseL_none hn, List.append_nil])
      have Ho1 := Lib.hid (Ho.out.below EvS.still hb1)
      clear hn hb1
      obtain ⟨pv, cv, rfl, _⟩ := Ho1.out.slice EvS.still (S' := fun _ => True) (fun _ _ _ => trivial) (fun _ _ => trivial)
      go_wp2
      go_ret
      exact ⟨_, rfl, by rw [Hfin.out]; exact Ho1.out.below EvS.still ((Below.refl _ _).alloc (Nat.le_refl _) _), Hb1.out.alloc Hb1.out.size _⟩
    · have hrl := firstL_len hsome
      have Hp : Hid ((evs ++ [x]) ++ parseL r = parseL l) := Lib.hid (by rw [← He.out, parseL_some hsome, List.append_assoc]; rfl)
      have Hxb := Lib.hid (hxb.weak (S' := fun k => wr.heap.size ≤ k ∨ k < w.heap.size) (fun k _ h => .inl h))
      have Hrb := Lib.hid hrb
      have hb1' := hb1
      have Ho1 := Lib.hid (Ho.out.below EvS.still hb1')
      unfold evArg
      obtain ⟨xk, xo, xn, xb⟩ := x
      dsimp only at Hxb ⊢
      clear hsome hxb hrb hb1 hb1'
      have hal : Below w1.heap.size w1 (w1.alloc (.cells #[.int .i64 xk, .int .i64 xo, .int .i64 xn, .slice q1 xb.length f1] 85)) := (Below.refl _ _).alloc (Nat.le_refl _) _
      have hal2 : Below w1.heap.size w1 ((w1.alloc (.cells #[.int .i64 xk, .int .i64 xo, .int .i64 xn, .slice q1 xb.length f1] 85)).alloc (.cells #[.int .i64 xk, .int .i64 xo, .int .i64 xn, .slice q1 xb.length f1] 85)) := hal.alloc (by simp) _
      have Hn : Hid (SliceS 4 EvS (fun k => True ∧ rowOf u3 ≠ some k) ((w1.alloc (.cells #[.int .i64 xk, .int .i64 xo, .int .i64 xn, .slice q1 xb.length f1] 85)).alloc (.cells #[.int .i64 xk, .int .i64 xo, .int .i64 xn, .slice q1 xb.length f1] 85)) [.slice (some ⟨w1.heap.size + 1, 0, none⟩) 1 1] [⟨xk, xo, xn, xb⟩]) :=
        Lib.hid (by have := new1E (x := ⟨xk, xo, xn, xb⟩) Ho.out (show wr.heap.size ≤ (w1.alloc (.cells #[.int .i64 xk, .int .i64 xo, .int .i64 xn, .slice q1 xb.length f1] 85)).heap.size by simp; omega) (Hxb.out.below hal); rw [show (w1.alloc (.cells #[.int .i64 xk, .int .i64 xo, .int .i64 xn, .slice q1 xb.length f1] 85)).heap.size = w1.heap.size + 1 by simp] at this; exact this)
      have Ho2 := Lib.hid (Ho1.out.below EvS.still hal2)
      have Hrb2 := Lib.hid (Hrb.out.below hal2)
      have Hb2 := Lib.hid (Hb1.out.trans (hal2.mono Hb1.out.size))
      clear hal hal2
      go_wp2_with (at_builtin; refine step_appendE _ rfl (.tmp 16) (.tmp 18) rfl w.heap.size u3 evs rfl Ho2.out (some ⟨w1.heap.size + 1, 0, none⟩) ⟨xk, xo, xn, xb⟩ rfl Hn.out (by omega) Hb2.out.size ?_; intro v4 w4 ho4 hg4 hn4; have Ho4 := Lib.hid ho4; have hT4 := Touch.of_row hg4; have Hb4 := Lib.hid (Hb2.out.trans (Below.of_row hg4 Hb2.out.size (fun k hk => (Ho2.out.row k hk).1))); have Hrb4 := Lib.hid (BytesS.still _ (fun k => k < w.heap.size) _ _ _ _ Hrb2.out (Kept.touch hT4 (fun k _ hs => ⟨hs, fun e => by have := (Ho2.out.row k e.symm).1; omega⟩))); clear ho4 hg4 hn4 hT4)
      go_roundw
      case rel => exact ⟨q2, r, f2, _, rfl, Hrb4.out, Ho4.out, Hp.out, by simp; omega, Hb4.out⟩
      case measure => simp [lenV]; omega

end Go.Proofs.Ytpdkoijgemgaiaa
