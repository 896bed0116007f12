/-
  The contracts of package scan (layer 3): New, good, fail, cut.
-/
import Derived.Test.YtjfhpafaopeogaaTouch
import Derived.Test.YtjfhpafaopeogaaBytesClone
namespace Go.Proofs.Ytjfhpafaopeogaa
open Go.RowKit

/-- A scan in memory: its struct in block sb, its bytes in block g. -/
def ScanO (w : World) (sb g : Nat) (L : List UInt8) (bad : Bool) : Prop :=
  ∃ p c, Blk w sb 176 #[.slice p L.length c, .bool bad, .bool true] ∧ L.length ≤ c ∧ c ≤ maxLen ∧ BytesIn w p L ∧ (∀ x, p = some x → x.block = g) ∧ (L ≠ [] → g ≠ sb) ∧ (bad = true → L = []) ∧ (p = none → c = 0)

theorem ScanO.touch {w w' : World} {sb g : Nat} {L : List UInt8} {bad : Bool} {p : Nat → Prop} (h : ScanO w sb g L bad) (ht : Touch p w w') (h1 : ¬ p sb) (h2 : L ≠ [] → ¬ p g) : ScanO w' sb g L bad := by
  obtain ⟨q, c, hb, h3, h4, h5, h6, h7, h8, h9⟩ := h
  exact ⟨q, c, ht.blk hb h1, h3, h4, ht.bytesIn h5 (fun hne x hx => by rw [h6 x hx]; exact h2 hne), h6, h7, h8, h9⟩

theorem ScanO.lt {w : World} {sb g : Nat} {L : List UInt8} {bad : Bool} (h : ScanO w sb g L bad) : sb < w.heap.size := by
  obtain ⟨q, c, hb, _⟩ := h
  exact hb.lt

theorem ScanO.ltg {w : World} {sb g : Nat} {L : List UInt8} {bad : Bool} (h : ScanO w sb g L bad) (hL : L ≠ []) : g < w.heap.size := by
  obtain ⟨q, c, hb, h3, h4, h5, h6, h7, h8⟩ := h
  obtain ⟨b, o, e, hc⟩ := h5 0 (List.length_pos_iff.2 hL)
  have := h6 _ e
  subst this
  exact World.block_lt_of_cell? w _ hc

theorem scanGood_nil (w : World) :
    Calls Try.prog 119 #[.pointer none] w fun e w' => e = .returned (.bool false) ∧ w = w' := by
  go_enter Try.func119, Try.ntmps119
  go_wp2
  go_ret
  exact ⟨rfl, rfl⟩

theorem scanGood_blk (sb : Nat) (v : Value) (bad made : Bool) (w : World) (h : ∀ i, w.cell? ⟨sb, i, none⟩ = (#[v, .bool bad, .bool made] : Array Value)[i]?) :
    Calls Try.prog 119 #[.pointer (some ⟨sb, 0, none⟩)] w fun e w' => e = .returned (.bool (made && !bad)) ∧ w = w' := by
  cases made
  · go_enter Try.func119, Try.ntmps119
    go_wp2
    go_ret
    exact ⟨rfl, rfl⟩
  · go_enter Try.func119, Try.ntmps119
    go_wp2
    go_ret
    exact ⟨ret_bool (by simp), rfl⟩

theorem scanFail_nil (w : World) :
    Calls Try.prog 115 #[.pointer none] w fun e w' => e = .returned (.tuple #[]) ∧ w = w' := by
  go_enter Try.func115, Try.ntmps115
  go_wp2
  go_end0
  exact ⟨rfl, rfl⟩

theorem scanFail_blk (sb : Nat) (v : Value) (bad made : Bool) (w : World) (h : Blk w sb 176 #[v, .bool bad, .bool made]) :
    Calls Try.prog 115 #[.pointer (some ⟨sb, 0, none⟩)] w fun e w' => e = .returned (.tuple #[]) ∧ Blk w' sb 176 #[.slice none 0 0, .bool true, .bool made] ∧ Touch (fun i => i = sb) w w' := by
  have hc := h.cell
  have hf0 := h.frozen 0
  have hf1 := h.frozen 1
  have Hb := Lib.hid h
  clear h
  go_enter Try.func115, Try.ntmps115
  go_wp2
  go_end0
  refine ⟨rfl, ?_, ((Touch.refl (fun i => i = sb) w).setCell (x := ⟨sb, 1, none⟩) (fun _ => rfl) _).setCell (x := ⟨sb, 0, none⟩) (fun _ => rfl) _⟩
  have := (Hb.out.set_ 1 (.bool true)).set_ 0 (.slice none 0 0)
  simpa using this

theorem ScanO.failed {w : World} {sb g : Nat} (h : Blk w sb 176 #[.slice none 0 0, .bool true, .bool true]) : ScanO w sb g [] true :=
  ⟨none, 0, h, Nat.le_refl _, by simp [maxLen], BytesIn.nil _ _, (by simp), (by simp), fun _ => rfl, fun _ => rfl⟩

/-- Nothing is cut: the scan is bad, or there are not so many. -/
theorem scanCut_no (sb g : Nat) (L : List UInt8) (bad : Bool) (n : Int) (w : World) (h : ScanO w sb g L bad) (hn : bad = true ∨ n < 0 ∨ (L.length : Int) < n) :
    Calls Try.prog 116 #[.pointer (some ⟨sb, 0, none⟩), .int .i64 n] w fun e w' =>
      e = .returned (.tuple #[.slice none 0 0, .bool false]) ∧ ScanO w' sb g [] true ∧ Touch (fun i => i = sb) w w' := by
  obtain ⟨p, c, hb, h1, h2, h3, h4, h5, h6, h7⟩ := h
  have hc := hb.cell
  have Hb := Lib.hid hb
  have hbb : bad = true ∨ (bad = false ∧ n < 0) ∨ (bad = false ∧ ¬ n < 0 ∧ (L.length : Int) < n) := by
    cases bad <;> by_cases q : n < 0 <;> simp_all
  clear hb h3 h4 h5 h6 h7 hn
  rcases hbb with rfl | ⟨rfl, hn⟩ | ⟨rfl, hn, hn2⟩
  all_goals
    go_enter Try.func116, Try.ntmps116
    go_wp2_with (first
      | (go_at_call 119; refine (scanGood_blk sb _ _ true _ hc).mono ?_; rintro e w1 ⟨rfl, rfl⟩)
      | (go_at_call 115; refine (scanFail_blk sb _ _ true _ Hb.out).mono ?_; rintro e w1 ⟨rfl, hb1, ht1⟩; have Hb1 := Lib.hid hb1; have Ht1 := Lib.hid ht1; clear hb1 ht1 hc))
    go_ret2
    exact ⟨rfl, ScanO.failed Hb1.out, Ht1.out⟩

theorem scan_moved {w w' : World} {sb g : Nat} {L : List UInt8} {a : Addr} (n : Nat) (hT : Touch (fun i => i = sb) w w') (hin : BytesIn w (some a) L) (hg : ∀ x, some a = some x → x.block = g) (hne : L ≠ [] → g ≠ sb) :
    BytesIn w' (some a) (L.take n) ∧ BytesIn w' (some (a.add n)) (L.drop n) ∧ (∀ x, some (a.add n) = some x → x.block = g) := by
  have h1 : BytesIn w' (some a) L := hT.bytesIn hin (fun h x hx e => hne h (by rw [← hg x hx]; exact e))
  refine ⟨h1.take n, ?_, fun x hx => ?_⟩
  · by_cases h0 : L = []
    · subst h0
      simp only [List.drop_nil]
      exact BytesIn.nil _ _
    · obtain ⟨b, o, e⟩ := h1.addr (List.length_pos_iff.2 h0)
      cases e
      rw [Addr.add_lit]
      exact h1.drop n
  · cases hx
    rw [← hg a rfl]
    unfold Addr.add
    split <;> rfl

theorem scanCut_yes (sb g : Nat) (L : List UInt8) (n : Nat) (w : World) (h : ScanO w sb g L false) (hn : n ≤ L.length) :
    Calls Try.prog 116 #[.pointer (some ⟨sb, 0, none⟩), .int .i64 (n : Int)] w fun e w' =>
      ∃ p, e = .returned (.tuple #[.slice p n n, .bool true]) ∧ BytesIn w' p (L.take n) ∧ (∀ x, p = some x → x.block = g) ∧ ScanO w' sb g (L.drop n) false ∧ Touch (fun i => i = sb) w w' := by
  obtain ⟨p, c, hb, h1, h2, h3, h4, h5, h6, h7⟩ := h
  have hc := hb.cell
  have hf := hb.frozen 0
  have Hb := Lib.hid hb
  have Hin := Lib.hid h3
  have Hg := Lib.hid h4
  have Hne := Lib.hid h5
  have hn0 : ¬ (n : Int) < 0 := by omega
  have hn1 : ¬ (L.length : Int) < (n : Int) := by omega
  have h2' := h2
  unfold maxLen at h2
  have H2 := Lib.hid h2'
  have Hbt : ∀ (q : Option Addr) (k d : Nat), Blk (w.setCell ⟨sb, 0, none⟩ (.slice q k d)) sb 176 #[.slice q k d, .bool false, .bool true] := fun q k d => by
    have := hb.set_ 0 (.slice q k d)
    simpa using this
  have HBt := Lib.hid Hbt
  have Ht : ∀ (u : Value), Touch (fun i => i = sb) w (w.setCell ⟨sb, 0, none⟩ u) := fun u => (Touch.refl (fun i => i = sb) w).setCell (x := ⟨sb, 0, none⟩) (fun _ => rfl) u
  have HT := Lib.hid Ht
  have Hlen := Lib.hid (show (L.drop n).length = L.length - n from List.length_drop)
  clear hb h3 h4 h5 h6 h2' Hbt Ht
  cases p with
  | none =>
    have hL : L = [] := by
      by_cases h0 : L = []
      · exact h0
      · obtain ⟨b, o, e⟩ := Hin.out.addr (List.length_pos_iff.2 h0)
        cases e
    subst hL
    obtain rfl : n = 0 := by simpa using hn
    obtain rfl : c = 0 := h7 rfl
    clear h7 hn0 hn1 Hlen
    go_enter Try.func116, Try.ntmps116
    go_wp2_with (first
      | (go_at_call 119; refine (scanGood_blk sb _ _ true _ hc).mono ?_; rintro e w1 ⟨rfl, rfl⟩))
    go_ret2
    exact ⟨none, rfl, BytesIn.nil _ _, (by simp), ⟨none, 0, HBt.out _ _ _, Nat.le_refl _, by simp [maxLen], BytesIn.nil _ _, (by simp), (by simp), (by simp), fun _ => rfl⟩, HT.out _⟩
  | some a =>
    clear h7
    have Htk := Lib.hid (show BytesIn w (some a) (L.take n) from Hin.out.take n)
    by_cases hcn : n = c
    · subst hcn
      have hd0 : L.drop n = [] := List.eq_nil_of_length_eq_zero (by rw [List.length_drop]; omega)
      have Hd0 := Lib.hid hd0
      have hLn : L.length = n := by omega
      clear hd0
      go_enter Try.func116, Try.ntmps116
      go_wp2_with (first
        | (go_at_call 119; refine (scanGood_blk sb _ _ true _ hc).mono ?_; rintro e w1 ⟨rfl, rfl⟩))
      go_ret2
      obtain ⟨m1, _, _⟩ := scan_moved n (HT.out (.slice (some a) 0 0)) Hin.out Hg.out Hne.out
      rw [Hd0.out]
      exact ⟨_, rfl, m1, Hg.out, ⟨some a, 0, HBt.out _ _ _, Nat.le_refl _, by simp [maxLen], BytesIn.nil _ _, Hg.out, (by simp), (by simp), (by simp)⟩, HT.out _⟩
    · have hcn2 : ¬ c = n := fun e => hcn e.symm
      clear hcn
      go_enter Try.func116, Try.ntmps116
      go_wp2_with (first
        | (go_at_call 119; refine (scanGood_blk sb _ _ true _ hc).mono ?_; rintro e w1 ⟨rfl, rfl⟩))
      go_ret2
      obtain ⟨m1, m2, m3⟩ := scan_moved n (HT.out (.slice (some (a.add n)) (L.length - n) (c - n))) Hin.out Hg.out Hne.out
      refine ⟨_, rfl, m1, Hg.out, ⟨some (a.add n), c - n, ?_, ?_, ?_, m2, m3, fun h => Hne.out (fun e => h (by rw [e]; exact List.drop_nil)), (by simp), (by simp)⟩, HT.out _⟩
      · rw [Hlen.out]; exact HBt.out _ _ _
      · rw [Hlen.out]; omega
      · unfold maxLen; omega

/-- Cut of a scan that no call made, and of none. -/
theorem scanCut_none (n : Int) (w : World) :
    Calls Try.prog 116 #[.pointer none, .int .i64 n] w fun e w' => e = .returned (.tuple #[.slice none 0 0, .bool false]) ∧ w = w' := by
  go_enter Try.func116, Try.ntmps116
  go_wp2_with (first
    | (go_at_call 119; refine (scanGood_nil _).mono ?_; rintro e w1 ⟨rfl, rfl⟩)
    | (go_at_call 115; refine (scanFail_nil _).mono ?_; rintro e w1 ⟨rfl, rfl⟩))
  go_ret2
  exact ⟨rfl, rfl⟩

theorem scanCut_zero (sb : Nat) (v : Value) (bad : Bool) (n : Int) (w : World) (h : Blk w sb 176 #[v, .bool bad, .bool false]) :
    Calls Try.prog 116 #[.pointer (some ⟨sb, 0, none⟩), .int .i64 n] w fun e w' =>
      e = .returned (.tuple #[.slice none 0 0, .bool false]) ∧ Blk w' sb 176 #[.slice none 0 0, .bool true, .bool false] ∧ Touch (fun i => i = sb) w w' := by
  have hc := h.cell
  have Hb := Lib.hid h
  clear h
  go_enter Try.func116, Try.ntmps116
  go_wp2_with (first
    | (go_at_call 119; refine (scanGood_blk sb _ _ false _ hc).mono ?_; rintro e w1 ⟨rfl, rfl⟩)
    | (go_at_call 115; refine (scanFail_blk sb _ _ false _ Hb.out).mono ?_; rintro e w1 ⟨rfl, hb1, ht1⟩; have Hb1 := Lib.hid hb1; have Ht1 := Lib.hid ht1; clear hb1 ht1 hc))
  go_ret2
  exact ⟨rfl, Hb1.out, Ht1.out⟩

end Go.Proofs.Ytjfhpafaopeogaa
