/-
  The contracts of package scan (layer 3): New, Num, Take, Left, Bad, Done.
-/
import Derived.Test.YtjfhpafaopeogaaScanA
import Derived.Test.YtjfhpafaopeogaaOwnTouch
import Derived.Test.YtjfhpafaopeogaaNumRight
import Derived.Test.YtjfhpafaopeogaaNumC
namespace Go.Proofs.Ytjfhpafaopeogaa
open Go.RowKit

theorem rightB_zero (n : Int) : rightB 0 n = sizedB n := by
  unfold rightB
  by_cases h : sizedB n = true
  · rcases sizedB_cases h with rfl | rfl | rfl <;> decide
  · have h' : sizedB n = false := by simpa using h
    rw [h']; rfl

theorem ScanO.cells {w : World} {sb g : Nat} {L : List UInt8} {bad : Bool} (h : ScanO w sb g L bad) : ∃ p c, Blk w sb 176 #[.slice p L.length c, .bool bad, .bool true] := by
  obtain ⟨p, c, hb, _⟩ := h
  exact ⟨p, c, hb⟩

theorem scanNew_any (p : Option Addr) (l : List UInt8) (cap : Nat) (w : World) (hl : l.length ≤ 1000000000) (hb : BytesIn w p l) :
    Calls Try.prog 88 #[.slice p l.length cap] w fun e w' =>
      ∃ sb g, e = .returned (.pointer (some ⟨sb, 0, none⟩)) ∧ ScanO w' sb g l false ∧ w.heap.size ≤ sb ∧ w.heap.size ≤ g ∧ Touch (fun _ => False) w w' := by
  have Hb := Lib.hid hb
  clear hb
  go_enter Try.func88, Try.ntmps88
  go_wp2_with fail
  refine (clone_any p l cap w hl Hb.out).mono ?_
  rintro e w1 ⟨v, rfl, ho, hb1⟩
  have hs1 := hb1.size
  have Ho := Lib.hid ho
  have Ht1 := Lib.hid (Touch.of_below (p := fun _ => False) hb1)
  clear ho hb1
  rcases Ho.out.2 with ⟨rfl, h0⟩ | ⟨g, cap', cur, rfl, h1, h2, h3, h4, _⟩
  · have hl0 : l = [] := List.eq_nil_of_length_eq_zero h0
    subst hl0
    go_wp2
    go_ret
    exact ⟨_, _, rfl, ⟨none, 0, Blk.new _ _ _, Nat.le_refl _, by simp [maxLen], BytesIn.nil _ _, (by simp), fun h => absurd rfl h, (by simp), fun _ => rfl⟩, hs1, Nat.le_refl _, Ht1.out.alloc _⟩
  · obtain ⟨p2, c2, e2, k1, k2, k3⟩ := Ho.out.slice
    simp only [Value.slice.injEq] at e2
    obtain ⟨rfl, -, rfl⟩ := e2
    have K3 := Lib.hid k3
    have hgl : g < w1.heap.size := (Ho.out.lt g rfl).2
    clear h2 k3
    go_wp2
    go_ret
    exact ⟨_, g, rfl, ⟨some ⟨g, 0, none⟩, cap', Blk.new _ _ _, k1, k2, K3.out.alloc _, (by simp), fun _ => by omega, (by simp), (by simp)⟩, hs1, h1, Ht1.out.alloc _⟩

theorem scanDone_any (sb g : Nat) (L : List UInt8) (bad : Bool) (w : World) (h : ScanO w sb g L bad) :
    Calls Try.prog 91 #[.pointer (some ⟨sb, 0, none⟩)] w fun e w' => e = .returned (.bool (!bad && L.isEmpty)) ∧ w = w' := by
  obtain ⟨p, c, hb, _⟩ := h
  have hc := hb.cell
  clear hb
  generalize hm : L.isEmpty = em
  have he : ((L.length : Int) == 0) = em := by rw [← hm]; cases L <;> simp; omega
  have He := Lib.hid he
  clear hm he
  cases bad
  · go_enter Try.func91, Try.ntmps91
    go_wp2_with (first | (go_at_call 119; refine (scanGood_blk sb _ _ true _ hc).mono ?_; rintro e w1 ⟨rfl, rfl⟩))
    go_ret
    refine ⟨ret_bool ?_, rfl⟩
    have := He.out
    simpa using this
  · go_enter Try.func91, Try.ntmps91
    go_wp2_with (first | (go_at_call 119; refine (scanGood_blk sb _ _ true _ hc).mono ?_; rintro e w1 ⟨rfl, rfl⟩))
    go_ret
    exact ⟨rfl, rfl⟩

theorem scanNum_no (sb g : Nat) (L : List UInt8) (bad : Bool) (n : Int) (w : World) (h : ScanO w sb g L bad) (hn : bad = true ∨ sizedB n = false ∨ (L.length : Int) < n) :
    Calls Try.prog 89 #[.pointer (some ⟨sb, 0, none⟩), .int .i64 n] w fun e w' =>
      e = .returned (.int .i64 0) ∧ ScanO w' sb g [] true ∧ Touch (fun i => i = sb) w w' := by
  have hr := rightB_zero n
  have H := Lib.hid h
  by_cases hs : sizedB n = true
  · rw [hs] at hr
    have Hr := Lib.hid hr
    have Hn : Hid (bad = true ∨ n < 0 ∨ (L.length : Int) < n) := Lib.hid (by rcases hn with e | e | e; (· exact .inl e); (· rw [hs] at e; cases e); (· exact .inr (.inr e)))
    clear h hn hr hs
    go_enter Try.func89, Try.ntmps89
    go_wp2_with (first
      | (go_at_call 114; refine (right_any _ _ _).mono ?_; rintro e w1 ⟨rfl, rfl⟩; rw [Hr.out])
      | (go_at_call 116; refine (scanCut_no sb g L bad n w H.out Hn.out).mono ?_; rintro e w1 ⟨rfl, h1, ht1⟩; have H1 := Lib.hid h1; have Ht1 := Lib.hid ht1; clear h1 ht1))
    go_ret
    exact ⟨rfl, H1.out, Ht1.out⟩
  · have hs' : sizedB n = false := by simpa using hs
    rw [hs'] at hr
    have Hr := Lib.hid hr
    obtain ⟨p, c, hb⟩ := h.cells
    have Hb := Lib.hid hb
    clear h hn hr hs hs' hb
    go_enter Try.func89, Try.ntmps89
    go_wp2_with (first
      | (go_at_call 114; refine (right_any _ _ _).mono ?_; rintro e w1 ⟨rfl, rfl⟩; rw [Hr.out])
      | (go_at_call 115; refine (scanFail_blk sb _ _ true _ Hb.out).mono ?_; rintro e w1 ⟨rfl, hb1, ht1⟩; have Hb1 := Lib.hid hb1; have Ht1 := Lib.hid ht1; clear hb1 ht1))
    go_ret
    exact ⟨rfl, ScanO.failed Hb1.out, Ht1.out⟩

theorem scanNum_yes (sb g : Nat) (L : List UInt8) (n : Nat) (w : World) (h : ScanO w sb g L false) (hs : sizedB n = true) (hn : n ≤ L.length) :
    Calls Try.prog 89 #[.pointer (some ⟨sb, 0, none⟩), .int .i64 (n : Int)] w fun e w' =>
      e = .returned (.int .i64 (be (L.take n))) ∧ ScanO w' sb g (L.drop n) false ∧ Touch (fun i => i = sb) w w' := by
  have hr := rightB_zero n
  rw [hs] at hr
  have Hr := Lib.hid hr
  have H := Lib.hid h
  have htk : (L.take n).length = n := by rw [List.length_take]; omega
  have hsz := sizedB_cases hs
  have hv : getV (L.take n) 0 n = (be (L.take n), 0) := by
    rw [getV_yes hs (by omega) (by rw [htk]; omega)]
    simp [List.take_take]
  have hget : ∀ (w : World) (p : Option Addr), BytesIn w p (L.take n) → Calls Try.prog 117 #[.slice p n n, .int .i64 0, .int .i64 (n : Int)] w fun e w' => e = .returned (.tuple #[.int .i64 (be (L.take n)), .int .i64 0]) ∧ w = w' := by
    intro w p hin
    have := get_any p (L.take n) n 0 n w (by omega) (by unfold maxLen; omega) hin
    rw [htk, hv] at this
    exact this
  have Hget := Lib.hid hget
  clear h hr hs htk hsz hv hget
  go_enter Try.func89, Try.ntmps89
  go_wp2_with (first
    | (go_at_call 114; refine (right_any _ _ _).mono ?_; rintro e w1 ⟨rfl, rfl⟩; rw [Hr.out])
    | (go_at_call 116; refine (scanCut_yes sb g L n w H.out hn).mono ?_; rintro e w1 ⟨p, rfl, hin, _, h1, ht1⟩; have H1 := Lib.hid h1; have Ht1 := Lib.hid ht1; have Hin := Lib.hid hin; clear h1 ht1 hin)
    | (go_at_call 117; refine (Hget.out _ _ Hin.out).mono ?_; rintro e w2 ⟨rfl, rfl⟩))
  go_ret
  exact ⟨rfl, H1.out, Ht1.out⟩

end Go.Proofs.Ytjfhpafaopeogaa
