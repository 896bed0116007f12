/-
  The contract of queue.all (layer 21).
-/
import Derived.Test.YtjfhpafaopeogaaEnB
namespace Go.Proofs.Ytjfhpafaopeogaa
open Go.RowKit
set_option linter.unusedVariables false
set_option linter.unusedSimpArgs false

abbrev OwnEn (B : Nat) (S : Nat → Prop) (w : World) (v : Value) (xs : List EnV) : Prop := OwnS B 52 8 EnS S w v xs

/-- Entries behind entries. -/
theorem step_appendEn {ops : Array Oper} {rest : List Oper} {o : Oper} {a : Act} {Q : Exit → Act → World → Prop} (w : World) (hgd : o.guard = none) (s y : Operand)
    (ho : o.op = .call { callee := .builtin .append, args := #[s, y], argTypes := #[23, 23] })
    (B : Nat) (S : Nat → Prop) (v : Value) (xs : List EnV) (hsv : a.eval s = v) (hown : OwnEn B S w v xs) (p : Option Addr) (n c : Nat) (ys : List EnV) (hx : a.eval y = .slice p n c) (hs : SliceS 8 EnS (fun k => S k ∧ rowOf v ≠ some k) w [.slice p n c] ys)
    (hroom : xs.length + ys.length ≤ 1000000) (hbase : B ≤ w.heap.size)
    (h : ∀ v' w', OwnEn B S w' v' (xs ++ ys) → w.grownBy w' (rowOf v) → (∀ k, rowOf v' = some k → rowOf v = some k ∨ w.heap.size ≤ k) → wpList Try.prog ops Q rest (a.put o.dst v') w') : wpList Try.prog ops Q (o :: rest) a w :=
  wpList_append_S w hgd s y 23 23 ho B 52 52 8 144 Try.underlying23 Try.underlying23 info_en EnS EnS.still EnS.one S v xs hsv hown p n c ys hx hs
    (by omega) (by simp only [maxLen]; omega) hbase h

/-- A new entry, as a slice of one. -/
theorem new1En {S : Nat → Prop} {w : World} {v : Value} {x : EnV} {a : EnP} (h : EnL (fun k => S k ∧ rowOf v ≠ some k) w x a) (h0 : S w.heap.size) (hv : rowOf v ≠ some w.heap.size) :
    SliceS 8 EnS (fun k => S k ∧ rowOf v ≠ some k) (w.alloc (.cells #[.int .i64 x.kind, .bool x.hide, .string x.frm, .string x.dst, .slice a.pg x.good.length a.cg, .slice a.pb x.bad.length a.cb, .slice a.pc x.cache.length a.cc, .slice a.pr x.reply.length a.cr] 52)) [.slice (some ⟨w.heap.size, 0, none⟩) 1 1] [x] :=
  SliceS.new1 EnS.still w 52 #[.int .i64 x.kind, .bool x.hide, .string x.frm, .string x.dst, .slice a.pg x.good.length a.cg, .slice a.pb x.bad.length a.cb, .slice a.pc x.cache.length a.cc, .slice a.pr x.reply.length a.cr] x ⟨a, rfl, h⟩ rfl (fun k _ hs => hs) ⟨h0, hv⟩

/-- The i-th entry of a slice. -/
theorem en_at {S : Nat → Prop} {w : World} {p : Option Addr} {n c k : Nat} {xs : List EnV} (h : SliceS 8 EnS S w [.slice p n c] xs) (hk : k < xs.length) :
    ∃ b o a, p = some ⟨b, o, none⟩ ∧ S b ∧ b < w.heap.size ∧ EnL S w xs[k] a ∧
      w.cell? ⟨b, o + k * 8, none⟩ = some (.int .i64 xs[k].kind) ∧ w.cell? ⟨b, o + k * 8 + 1, none⟩ = some (.bool xs[k].hide) ∧ w.cell? ⟨b, o + k * 8 + 2, none⟩ = some (.string xs[k].frm) ∧ w.cell? ⟨b, o + k * 8 + 3, none⟩ = some (.string xs[k].dst) ∧
      w.cell? ⟨b, o + k * 8 + 4, none⟩ = some (.slice a.pg xs[k].good.length a.cg) ∧ w.cell? ⟨b, o + k * 8 + 5, none⟩ = some (.slice a.pb xs[k].bad.length a.cb) ∧ w.cell? ⟨b, o + k * 8 + 6, none⟩ = some (.slice a.pc xs[k].cache.length a.cc) ∧ w.cell? ⟨b, o + k * 8 + 7, none⟩ = some (.slice a.pr xs[k].reply.length a.cr) := by
  obtain ⟨b, o, cs, rfl, hS, hb, _, hc, a, rfl, hl⟩ := h.elem (by omega) k xs[k] (List.getElem?_eq_getElem hk)
  have c0 := hc 0 _ rfl
  rw [Nat.add_zero] at c0
  exact ⟨b, o, a, rfl, hS, hb, hl, c0, hc 1 _ rfl, hc 2 _ rfl, hc 3 _ rfl, hc 4 _ rfl, hc 5 _ rfl, hc 6 _ rfl, hc 7 _ rfl⟩

set_option maxRecDepth 100000 in
set_option maxHeartbeats 4000000 in
theorem all_any (S : Nat → Prop) (p : Option Addr) (n c : Nat) (xs : List EnV) (w : World) (h : SliceS 8 EnS S w [.slice p n c] xs) (hs : ∀ x ∈ xs, EnSmall x) (hl : xs.length ≤ 100000) :
    Calls Try.prog 68 #[.slice p n c] w fun e w' => ∃ v, e = .returned v ∧ OwnEn w.heap.size (fun k => w.heap.size ≤ k) w' v xs ∧ Below w.heap.size w w' := by
  have H := Lib.hid (h.weak EnS.still (S' := fun k => k < w.heap.size) (fun k hk _ => hk))
  have Hs := Lib.hid hs
  obtain ⟨rfl, hlc, hcm⟩ := h.len
  unfold maxLen at hcm
  clear h hs
  go_enter Try.func68, Try.ntmps68
  go_wp2_with fail
  go_loopw [3, 8] (fun v i wr => ∃ k : Nat, k ≤ xs.length ∧ i = .int .i64 k ∧ OwnEn w.heap.size (fun k => w.heap.size ≤ k) wr v (xs.take k) ∧ Below w.heap.size w wr) (fun _ i _ => xs.length - (intOf i).toNat)
  case atStart => exact ⟨0, Nat.zero_le _, rfl, OwnS.empty _, Below.refl _ _⟩
  case round =>
    obtain ⟨k, hk, rfl, ho, hb⟩ := hrel
    have hsz := hb.size
    have Ho := Lib.hid ho
    have Hb := Lib.hid hb
    have hrow := ho.row
    clear ho
    by_cases hlt : k < xs.length
    · obtain ⟨b, o, a, rfl, hS, hbl, hL, c0, c1, c2, c3, c4, c5, c6, c7⟩ := en_at (H.out.weak EnS.still (S' := fun k => k < w.heap.size) (fun _ _ h => h) |>.below EnS.still hb) hlt
      have HLr := Lib.hid hL
      have Hx := Lib.hid (Hs.out xs[k] (List.getElem_mem hlt))
      have Htk : Hid (xs.take (k + 1) = xs.take k ++ [xs[k]]) := Lib.hid (by rw [List.take_succ_eq_append_getElem hlt])
      have Hrow := Lib.hid hrow
      clear hL hb hrow
      generalize xs[k] = x at *
      obtain ⟨xk, xh, xf, xd, xg, xb, xc, xr⟩ := x
      obtain ⟨pg, cg, pb, cb, pc, cc, pr, cr⟩ := a
      dsimp only at *
      have hlti : (k : Int) < (xs.length : Int) := by omega
      go_wp2_with fail
      have hal : Below wr.heap.size wr (wr.alloc (.cells #[.int .i64 xk, .bool xh, .string xf, .string xd, .slice pg xg.length cg, .slice pb xb.length cb, .slice pc xc.length cc, .slice pr xr.length cr] 52)) := (Below.refl _ _).alloc (Nat.le_refl _) _
      refine (copied_any _ ⟨xk, xh, xf, xd, xg, xb, xc, xr⟩ ⟨pg, cg, pb, cb, pc, cc, pr, cr⟩ _ (HLr.out.keep (Kept.all hal)) Hx.out).mono ?_
      rintro e w1 ⟨⟨pg', cg', pb', cb', pc', cc', pr', cr'⟩, rfl, hl1, hb1⟩
      unfold enArg
      dsimp only
      simp only [World.size_alloc] at hl1 hb1
      have hb1' := hal.trans (hb1.mono (by omega))
      have hz1 : wr.heap.size + 1 ≤ w1.heap.size := by have := hb1.size; simpa using this
      have Hal1 : Below w1.heap.size w1 (w1.alloc (.cells #[.int .i64 xk, .bool xh, .string xf, .string xd, .slice pg' xg.length cg', .slice pb' xb.length cb', .slice pc' xc.length cc', .slice pr' xr.length cr'] 52)) := (Below.refl _ _).alloc (Nat.le_refl _) _
      have Hn := Lib.hid (new1En (S := fun k => w.heap.size ≤ k) (v := u3) (x := ⟨xk, xh, xf, xd, xg, xb, xc, xr⟩) (a := ⟨pg', cg', pb', cb', pc', cc', pr', cr'⟩) (w := w1)
        (hl1.keep (Kept.mono w1 (fun j _ hj => ⟨by omega, fun e => by have := (Hrow.out j e).2; omega⟩))) (by omega) (fun e => by have := (Hrow.out _ e).2; omega))
      have Ho2 := Lib.hid ((Ho.out.below' EnS.still hb1').below' EnS.still Hal1)
      have Hb2 := Lib.hid (Hb.out.trans ((hb1'.trans (Hal1.mono (by omega))).mono hsz))
      clear hl1 hb1 hb1' hal Hal1
      dsimp only at Hn
      go_wp2_with (at_builtin; refine step_appendEn _ rfl (.tmp 12) (.tmp 15) rfl w.heap.size (fun k => w.heap.size ≤ k) u3 (xs.take k) rfl Ho2.out (some ⟨w1.heap.size, 0, none⟩) 1 1 [⟨xk, xh, xf, xd, xg, xb, xc, xr⟩] rfl Hn.out (by simp; omega) Hb2.out.size ?_; intro v4 w4 ho4 hg4 hn4; have Ho4 := Lib.hid ho4; have Hb4 := Lib.hid (Hb2.out.trans (Below.of_row hg4 Hb2.out.size (fun k hk => (Ho2.out.row k hk).1))); clear ho4 hg4 hn4)
      go_roundw
      case rel => exact ⟨k + 1, by omega, by go_num, by rw [Htk.out]; exact Ho4.out, Hb4.out⟩
      case measure => simp [intOf]; omega
    · obtain rfl : k = xs.length := by omega
      rw [List.take_length] at Ho
      obtain ⟨pv, cv, rfl, _⟩ := Ho.out.slice EnS.still (S' := fun _ => True) (fun _ _ _ => trivial) (fun _ _ => trivial)
      go_wp2
      go_ret
      exact ⟨_, rfl, Ho.out, Hb.out⟩

end Go.Proofs.Ytjfhpafaopeogaa
