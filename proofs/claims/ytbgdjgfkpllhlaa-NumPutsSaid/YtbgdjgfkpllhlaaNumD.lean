/-
  The contracts of bytes.Equal, bytes.Clone, num.Put and remudaref01.Put.
-/
import Derived.Test.YtbgdjgfkpllhlaaNumC
import Derived.Test.YtbgdjgfkpllhlaaAppend
namespace Go.Proofs.Ytbgdjgfkpllhlaa
open Go.RowKit

theorem Try.info5 : (Try.prog.info? 5).map (fun i => (i.zero, i.size, i.bytes)) = some (some (.int .u8 0), 1, 1) := by kernel_rfl

theorem equal_any (p q : Option Addr) (l m : List UInt8) (c d : Nat) (w : World) (h1 : BytesIn w p l) (h2 : BytesIn w q m) :
    Calls Try.prog 22 #[.slice p l.length c, .slice q m.length d] w fun e w' => e = .returned (.bool (l == m)) ∧ w = w' := by
  have k1 := h1.convert c 22 5 9 Try.underlying22 Try.underlying5 Try.underlying9
  have k2 := h2.convert d 22 5 9 Try.underlying22 Try.underlying5 Try.underlying9
  have e : ((strOf l).toList == (strOf m).toList) = (l == m) := by rw [strOf_toList, strOf_toList]
  have E := Lib.hid e
  clear e h1 h2
  go_enter Try.func22, Try.ntmps22
  go_wp2
  go_ret
  rw [E.out]
  exact ⟨rfl, rfl⟩

/-- A byte slice of the call's own. -/
def OwnB (B : Nat) (w : World) (v : Value) (l : List UInt8) : Prop := w.ownsRow B 5 1 v l.length (bytesV l)

theorem OwnB.slice {B : Nat} {w : World} {v : Value} {l : List UInt8} (h : OwnB B w v l) :
    ∃ p c, v = .slice p l.length c ∧ l.length ≤ c ∧ c ≤ maxLen ∧ BytesIn w p l := ownsRow_bytesIn h

/-- 'append' of bytes onto a byte slice of the call's own. -/
theorem step_appendB {ops : Array Oper} {rest : List Oper} {o : Oper} {a : Act} {Q : Exit → Act → World → Prop} (w : World) (hgd : o.guard = none) (s y : Operand)
    (ho : o.op = .call { callee := .builtin .append, args := #[s, y], argTypes := #[22, 22] })
    (B : Nat) (v : Value) (l : List UInt8) (hsv : a.eval s = v) (hown : OwnB B w v l) (p : Option Addr) (m : List UInt8) (c : Nat) (hx : a.eval y = .slice p m.length c) (hin : BytesIn w p m)
    (hroom : l.length + m.length ≤ 140737488355328) (hbase : B ≤ w.heap.size)
    (h : ∀ v' w', OwnB B w' v' (l ++ m) → Below B w w' → w.grownBy w' v.ownBlock → wpList Try.prog ops Q rest (a.put o.dst v') w') : wpList Try.prog ops Q (o :: rest) a w := by
  obtain ⟨i0, hi, hz0, hz1, hz2⟩ := info_parts Try.info5
  refine wpList_append_src w hgd s y 22 22 ho B 5 i0 (.int .u8 0) 1 1 Try.underlying22 hi hz0 hz1 hz2 rfl (by decide) v _ _ hsv hown _ m.length _ hx (hin.src Try.underlying22 c)
    (by simp only [maxLen]; omega) (by omega) hbase ?_
  intro v' w' h1 h2 _
  refine h v' w' ?_ ((Below.refl _ _).grown h2 hbase (fun k hk => (hown.lt k hk).1)) h2
  unfold OwnB
  rw [List.length_append, ← bytesV_append]
  exact h1

theorem OwnB.empty {B : Nat} {w : World} (hb : B ≤ w.heap.size) : OwnB B (w.alloc (.cells #[] 5)) (.slice (some ⟨w.heap.size, 0, none⟩) 0 0) [] :=
  World.ownsRow_made w #[] 0 hb (by simp [maxLen]) rfl

theorem OwnB.none (B : Nat) (w : World) : OwnB B w (.slice none 0 0) [] := World.ownsRow_nil w B _ 1

theorem BytesIn.alloc {w : World} {p : Option Addr} {l : List UInt8} (h : BytesIn w p l) (o : Obj) : BytesIn (w.alloc o) p l := by
  intro i hi
  obtain ⟨b, o', e, hc⟩ := h i hi
  refine ⟨b, o', e, ?_⟩
  have hlt := World.block_lt_of_cell? w _ hc
  rw [← hc]
  exact World.cell?_of_block (Below.heap_alloc w o _ hlt)

theorem OwnB.alloc {B : Nat} {w : World} {v : Value} {l : List UInt8} (h : OwnB B w v l) (o : Obj) : OwnB B (w.alloc o) v l := World.ownsRow.alloc h o

theorem BytesIn.new1 (w : World) (c : UInt8) (X : Int) (e : TypeId) (h : (c.toNat : Int) = X) : BytesIn (w.alloc (.cells #[.int .u8 X] e)) (some ⟨w.heap.size, 0, none⟩) [c] := by
  intro i hi
  obtain rfl : i = 0 := by simpa using hi
  subst h
  exact ⟨_, _, rfl, by simp⟩

/-- The byte at place j of a number of z bytes. -/
def putAt (n : Int) (z j : Nat) : UInt8 := UInt8.ofNat ((n % 4294967296).toNat / 256 ^ (z - 1 - j))
def putB (n : Int) (z j : Nat) : List UInt8 := (List.range j).map (putAt n z)
/-- Bytes with a number behind them. -/
def putV (l : List UInt8) (n size : Int) : List UInt8 := l ++ if rightB n size = true then putB n size.toNat size.toNat else []

theorem putB_succ (n : Int) (z j : Nat) : putB n z (j + 1) = putB n z j ++ [putAt n z j] := by
  simp [putB, List.range_succ]
theorem putB_length (n : Int) (z j : Nat) : (putB n z j).length = j := by simp [putB]

theorem putAt_shr (n : Int) (z j : Nat) (hz : z = 1 ∨ z = 2 ∨ z = 4) (hj : j < z) : ((putAt n z j).toNat : Int) = n / 2 ^ (8 * (z - 1 - j)) % 256 := by
  have : (z = 1 ∧ j = 0) ∨ (z = 2 ∧ j = 0) ∨ (z = 2 ∧ j = 1) ∨ (z = 4 ∧ j = 0) ∨ (z = 4 ∧ j = 1) ∨ (z = 4 ∧ j = 2) ∨ (z = 4 ∧ j = 3) := by omega
  rcases this with ⟨rfl, rfl⟩ | ⟨rfl, rfl⟩ | ⟨rfl, rfl⟩ | ⟨rfl, rfl⟩ | ⟨rfl, rfl⟩ | ⟨rfl, rfl⟩ | ⟨rfl, rfl⟩ <;> simp [putAt] <;> omega

/-- bytes.Clone: nil stays nil; else a row of its own. -/
theorem clone_any (p : Option Addr) (l : List UInt8) (cap : Nat) (w : World) (hl : l.length ≤ 1000000000) (hb : BytesIn w p l) :
    Calls Try.prog 21 #[.slice p l.length cap] w fun e w' =>
      ∃ v, e = .returned v ∧ OwnB w.heap.size w' v l ∧ Below w.heap.size w w' := by
  have q22 : ∀ (w : World) (a : Option Addr) (n c n' c' : Nat), (binOp .eql 22 (.slice a n c) (.slice none n' c')).run Try.prog w = .ok (.bool a.isNone) w :=
    fun w a n c n' c' => Lib.run_eql_slice_nil w _ _ a n c n' c' Try.underlying22
  have Hb := Lib.hid hb
  cases p with
  | none =>
    have hl0 : l = [] := by
      by_cases h0 : l = []
      · exact h0
      · obtain ⟨b, o, e⟩ := hb.addr (List.length_pos_iff.2 h0)
        cases e
    subst hl0
    clear hb
    go_enter Try.func21, Try.ntmps21
    go_wp2
    go_ret
    exact ⟨_, rfl, OwnB.none _ _, Below.refl _ _⟩
  | some a =>
    clear hb
    go_enter Try.func21, Try.ntmps21
    go_wp2_with (first | (at_builtin; refine step_appendB _ rfl _ _ rfl w.heap.size _ [] rfl (OwnB.empty (Nat.le_refl _)) _ l _ rfl (Hb.out.alloc _) (by simp; omega) (by simp) ?_; intro v1 w1 hown1 hb1 _))
    go_ret
    exact ⟨_, rfl, by simpa using hown1, ((Below.refl _ _).alloc (Nat.le_refl _) _).trans hb1⟩

set_option maxHeartbeats 1000000 in
theorem put_any (p : Option Addr) (l : List UInt8) (cap : Nat) (n size : Int) (w : World) (hl : l.length ≤ 1000000000) (hb : BytesIn w p l) :
    Calls Try.prog 15 #[.slice p l.length cap, .int .i64 n, .int .i64 size] w fun e w' =>
      ∃ v, e = .returned v ∧ OwnB w.heap.size w' v (putV l n size) ∧ Below w.heap.size w w' := by
  by_cases hr : rightB n size = true
  · have hs : sizedB size = true := by unfold rightB at hr; simp at hr; exact hr.1
    have hsz := sizedB_cases hs
    obtain ⟨z, rfl⟩ := Int.eq_ofNat_of_zero_le (show 0 ≤ size by omega)
    have hz : z = 1 ∨ z = 2 ∨ z = 4 := by omega
    have hV : putV l n z = l ++ putB n z z := by unfold putV; rw [if_pos hr]; rfl
    have HV := Lib.hid hV
    have Hr := Lib.hid hr
    have Hb := Lib.hid hb
    have hz1 : 1 ≤ z := by omega
    have hz4 : z ≤ 4 := by omega
    have Hz := Lib.hid hz
    clear hb hr hs hsz hV hz
    go_enter Try.func15, Try.ntmps15
    go_wp2_with (first | (at_builtin; refine step_appendB _ rfl _ _ rfl w.heap.size _ [] rfl (OwnB.empty (Nat.le_refl _)) _ l _ rfl (Hb.out.alloc _) (by simp; omega) (by simp) ?_; intro v1 w1 hown1 hb1 _) | (go_at_call 13; refine (right_any _ _ _).mono ?_; rintro e w' ⟨rfl, rfl⟩; rw [Hr.out]))
    have hbel : Below w.heap.size w w1 := ((Below.refl _ _).alloc (Nat.le_refl _) _).trans hb1
    go_loopw [7, 8] (fun v s wr => ∃ j : Nat, j ≤ z ∧ s = .int .i64 (8 * ((z : Int) - 1 - j)) ∧ OwnB w.heap.size wr v (l ++ putB n z j) ∧ Below w.heap.size w wr) (fun _ s _ => (intOf s + 8).toNat)
    case atStart => exact ⟨0, Nat.zero_le _, by congr 1; omega, by simpa [putB] using hown1, hbel⟩
    case round =>
      obtain ⟨j, hj, rfl, hown, hbw⟩ := hrel
      have Hown := Lib.hid hown
      have Hbw := Lib.hid hbw
      have hbsz := hbw.size
      clear hown hbw hb1 hbel hown1
      by_cases hlt : j < z
      · go_wp2_with (first | (at_builtin; refine step_appendB _ rfl _ _ rfl w.heap.size _ _ rfl (Hown.out.alloc _) _ [putAt n z j] 1 rfl (BytesIn.new1 _ _ _ _ (putAt_shr n z j Hz.out hlt)) (by simp [putB_length]; omega) (by simp; omega) ?_; intro v2 w2 hown2 hb2 _))
        have hbel2 := (Hbw.out.alloc hbsz _).trans hb2
        rw [List.append_assoc, ← putB_succ] at hown2
        go_roundw
        case rel => exact ⟨j + 1, by omega, by congr 1; omega, hown2, hbel2⟩
        case measure => simp [intOf]; omega
      · go_wp2
        go_ret
        obtain rfl : j = z := by omega
        refine ⟨_, rfl, ?_, Hbw.out⟩
        rw [HV.out]; exact Hown.out
  · have hV : putV l n size = l := by unfold putV; rw [if_neg hr]; simp
    have hr' : rightB n size = false := by simpa using hr
    have HV := Lib.hid hV
    have Hr := Lib.hid hr'
    have Hb := Lib.hid hb
    clear hb hr hr' hV
    go_enter Try.func15, Try.ntmps15
    go_wp2_with (first | (at_builtin; refine step_appendB _ rfl _ _ rfl w.heap.size _ [] rfl (OwnB.empty (Nat.le_refl _)) _ l _ rfl (Hb.out.alloc _) (by simp; omega) (by simp) ?_; intro v1 w1 hown1 hb1 _) | (go_at_call 13; refine (right_any _ _ _).mono ?_; rintro e w' ⟨rfl, rfl⟩; rw [Hr.out]))
    go_ret
    refine ⟨_, rfl, ?_, ((Below.refl _ _).alloc (Nat.le_refl _) _).trans hb1⟩
    rw [HV.out]; simpa using hown1

end Go.Proofs.Ytbgdjgfkpllhlaa
