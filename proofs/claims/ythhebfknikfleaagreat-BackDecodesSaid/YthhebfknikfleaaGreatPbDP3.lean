/-
  Ground: ScanA, ScanB, ScanC, ScanF, ScanG, ScanH, ScanI, ScanGt, ScanBt, ScanIt, FoR.
-/
import Derived.Test.YthhebfknikfleaaGreatPbDP0
import Derived.Test.YthhebfknikfleaaGreatPbDP2
import Derived.Test.YthhebfknikfleaaGreatPbDP1
/-
  The contracts of package scan (layer 3): New, good, fail, cut.
-/
namespace Go.Proofs.YthhebfknikfleaaGreat
open Go.RowKit

/-- A scan in memory: its struct in block sb, its bytes in block g. -/
def ScanO (w : World) (sb g : Nat) (L : List UInt8) (bad : Bool) : Prop :=
  ∃ p c, Blk w sb 152 #[.slice p L.length c, .bool bad, .bool true] ∧ L.length ≤ c ∧ c ≤ maxLen ∧ BytesIn w p L ∧ (∀ x, p = some x → x.block = g) ∧ (L ≠ [] → g ≠ sb) ∧ (bad = true → L = []) ∧ (p = none → c = 0)

theorem ScanO.touch {w w' : World} {sb g : Nat} {L : List UInt8} {bad : Bool} {p : Nat → Prop} (h : ScanO w sb g L bad) (ht : Touch p w w') (h1 : ¬ p sb) (h2 : L ≠ [] → ¬ p g) : ScanO w' sb g L bad := by
  obtain ⟨q, c, hb, h3, h4, h5, h6, h7, h8, h9⟩ := h
  exact ⟨q, c, ht.blk hb h1, h3, h4, ht.bytesIn h5 (fun hne x hx => by rw [h6 x hx]; exact h2 hne), h6, h7, h8, h9⟩

theorem ScanO.lt {w : World} {sb g : Nat} {L : List UInt8} {bad : Bool} (h : ScanO w sb g L bad) : sb < w.heap.size := by
  obtain ⟨q, c, hb, _⟩ := h
  exact hb.lt

theorem ScanO.ltg {w : World} {sb g : Nat} {L : List UInt8} {bad : Bool} (h : ScanO w sb g L bad) (hL : L ≠ []) : g < w.heap.size := by
  obtain ⟨q, c, hb, h3, h4, h5, h6, h7, h8⟩ := h
  obtain ⟨b, o, e, hc⟩ := h5 0 (List.length_pos_iff.2 hL)
  have := h6 _ e
  subst this
  exact World.block_lt_of_cell? w _ hc

theorem scanGood_nil (w : World) :
    Calls Tryz.prog 119 #[.pointer none] w fun e w' => e = .returned (.bool false) ∧ w = w' := by
  go_enter Tryz.func119, Tryz.ntmps119
  go_wp2
  go_ret
  exact ⟨rfl, rfl⟩

theorem scanGood_blk (sb : Nat) (v : Value) (bad made : Bool) (w : World) (h : ∀ i, w.cell? ⟨sb, i, none⟩ = (#[v, .bool bad, .bool made] : Array Value)[i]?) :
    Calls Tryz.prog 119 #[.pointer (some ⟨sb, 0, none⟩)] w fun e w' => e = .returned (.bool (made && !bad)) ∧ w = w' := by
  cases made
  · go_enter Tryz.func119, Tryz.ntmps119
    go_wp2
    go_ret
    exact ⟨rfl, rfl⟩
  · go_enter Tryz.func119, Tryz.ntmps119
    go_wp2
    go_ret
    exact ⟨ret_bool (by simp), rfl⟩

theorem scanFail_nil (w : World) :
    Calls Tryz.prog 138 #[.pointer none] w fun e w' => e = .returned (.tuple #[]) ∧ w = w' := by
  go_enter Tryz.func138, Tryz.ntmps138
  go_wp2
  go_end0
  exact ⟨rfl, rfl⟩

theorem scanFail_blk (sb : Nat) (v : Value) (bad made : Bool) (w : World) (h : Blk w sb 152 #[v, .bool bad, .bool made]) :
    Calls Tryz.prog 138 #[.pointer (some ⟨sb, 0, none⟩)] w fun e w' => e = .returned (.tuple #[]) ∧ Blk w' sb 152 #[.slice none 0 0, .bool true, .bool made] ∧ Touch (fun i => i = sb) w w' := by
  have hc := h.cell
  have hf0 := h.frozen 0
  have hf1 := h.frozen 1
  have Hb := Lib.hid h
  clear h
  go_enter Tryz.func138, Tryz.ntmps138
  go_wp2
  go_end0
  refine ⟨rfl, ?_, ((Touch.refl (fun i => i = sb) w).setCell (x := ⟨sb, 1, none⟩) (fun _ => rfl) _).setCell (x := ⟨sb, 0, none⟩) (fun _ => rfl) _⟩
  have := (Hb.out.set_ 1 (.bool true)).set_ 0 (.slice none 0 0)
  simpa using this

theorem ScanO.failed {w : World} {sb g : Nat} (h : Blk w sb 152 #[.slice none 0 0, .bool true, .bool true]) : ScanO w sb g [] true :=
  ⟨none, 0, h, Nat.le_refl _, by simp [maxLen], BytesIn.nil _ _, (by simp), (by simp), fun _ => rfl, fun _ => rfl⟩

/-- Nothing is cut: the scan is bad, or there are not so many. -/
theorem scanCut_no (sb g : Nat) (L : List UInt8) (bad : Bool) (n : Int) (w : World) (h : ScanO w sb g L bad) (hn : bad = true ∨ n < 0 ∨ (L.length : Int) < n) :
    Calls Tryz.prog 139 #[.pointer (some ⟨sb, 0, none⟩), .int .i64 n] w fun e w' =>
      e = .returned (.tuple #[.slice none 0 0, .bool false]) ∧ ScanO w' sb g [] true ∧ Touch (fun i => i = sb) w w' := by
  obtain ⟨p, c, hb, h1, h2, h3, h4, h5, h6, h7⟩ := h
  have hc := hb.cell
  have Hb := Lib.hid hb
  have hbb : bad = true ∨ (bad = false ∧ n < 0) ∨ (bad = false ∧ ¬ n < 0 ∧ (L.length : Int) < n) := by
    cases bad <;> by_cases q : n < 0 <;> simp_all
  clear hb h3 h4 h5 h6 h7 hn
  rcases hbb with rfl | ⟨rfl, hn⟩ | ⟨rfl, hn, hn2⟩
  all_goals
    go_enter Tryz.func139, Tryz.ntmps139
    go_wp2_with (first
      | (go_at_call 119; refine (scanGood_blk sb _ _ true _ hc).mono ?_; rintro e w1 ⟨rfl, rfl⟩)
      | (go_at_call 138; refine (scanFail_blk sb _ _ true _ Hb.out).mono ?_; rintro e w1 ⟨rfl, hb1, ht1⟩; have Hb1 := Lib.hid hb1; have Ht1 := Lib.hid ht1; clear hb1 ht1 hc))
    go_ret2
    exact ⟨rfl, ScanO.failed Hb1.out, Ht1.out⟩

theorem scan_moved {w w' : World} {sb g : Nat} {L : List UInt8} {a : Addr} (n : Nat) (hT : Touch (fun i => i = sb) w w') (hin : BytesIn w (some a) L) (hg : ∀ x, some a = some x → x.block = g) (hne : L ≠ [] → g ≠ sb) :
    BytesIn w' (some a) (L.take n) ∧ BytesIn w' (some (a.add n)) (L.drop n) ∧ (∀ x, some (a.add n) = some x → x.block = g) := by
  have h1 : BytesIn w' (some a) L := hT.bytesIn hin (fun h x hx e => hne h (by rw [← hg x hx]; exact e))
  refine ⟨h1.take n, ?_, fun x hx => ?_⟩
  · by_cases h0 : L = []
    · subst h0
      simp only [List.drop_nil]
      exact BytesIn.nil _ _
    · obtain ⟨b, o, e⟩ := h1.addr (List.length_pos_iff.2 h0)
      cases e
      rw [Addr.add_lit]
      exact h1.drop n
  · cases hx
    rw [← hg a rfl]
    unfold Addr.add
    split <;> rfl

theorem scanCut_yes (sb g : Nat) (L : List UInt8) (n : Nat) (w : World) (h : ScanO w sb g L false) (hn : n ≤ L.length) :
    Calls Tryz.prog 139 #[.pointer (some ⟨sb, 0, none⟩), .int .i64 (n : Int)] w fun e w' =>
      ∃ p, e = .returned (.tuple #[.slice p n n, .bool true]) ∧ BytesIn w' p (L.take n) ∧ (∀ x, p = some x → x.block = g) ∧ ScanO w' sb g (L.drop n) false ∧ Touch (fun i => i = sb) w w' := by
  obtain ⟨p, c, hb, h1, h2, h3, h4, h5, h6, h7⟩ := h
  have hc := hb.cell
  have hf := hb.frozen 0
  have Hb := Lib.hid hb
  have Hin := Lib.hid h3
  have Hg := Lib.hid h4
  have Hne := Lib.hid h5
  have hn0 : ¬ (n : Int) < 0 := by omega
  have hn1 : ¬ (L.length : Int) < (n : Int) := by omega
  have h2' := h2
  unfold maxLen at h2
  have H2 := Lib.hid h2'
  have Hbt : ∀ (q : Option Addr) (k d : Nat), Blk (w.setCell ⟨sb, 0, none⟩ (.slice q k d)) sb 152 #[.slice q k d, .bool false, .bool true] := fun q k d => by
    have := hb.set_ 0 (.slice q k d)
    simpa using this
  have HBt := Lib.hid Hbt
  have Ht : ∀ (u : Value), Touch (fun i => i = sb) w (w.setCell ⟨sb, 0, none⟩ u) := fun u => (Touch.refl (fun i => i = sb) w).setCell (x := ⟨sb, 0, none⟩) (fun _ => rfl) u
  have HT := Lib.hid Ht
  have Hlen := Lib.hid (show (L.drop n).length = L.length - n from List.length_drop)
  clear hb h3 h4 h5 h6 h2' Hbt Ht
  cases p with
  | none =>
    have hL : L = [] := by
      by_cases h0 : L = []
      · exact h0
      · obtain ⟨b, o, e⟩ := Hin.out.addr (List.length_pos_iff.2 h0)
        cases e
    subst hL
    obtain rfl : n = 0 := by simpa using hn
    obtain rfl : c = 0 := h7 rfl
    clear h7 hn0 hn1 Hlen
    go_enter Tryz.func139, Tryz.ntmps139
    go_wp2_with (first
      | (go_at_call 119; refine (scanGood_blk sb _ _ true _ hc).mono ?_; rintro e w1 ⟨rfl, rfl⟩))
    go_ret2
    exact ⟨none, rfl, BytesIn.nil _ _, (by simp), ⟨none, 0, HBt.out _ _ _, Nat.le_refl _, by simp [maxLen], BytesIn.nil _ _, (by simp), (by simp), (by simp), fun _ => rfl⟩, HT.out _⟩
  | some a =>
    clear h7
    have Htk := Lib.hid (show BytesIn w (some a) (L.take n) from Hin.out.take n)
    by_cases hcn : n = c
    · subst hcn
      have hd0 : L.drop n = [] := List.eq_nil_of_length_eq_zero (by rw [List.length_drop]; omega)
      have Hd0 := Lib.hid hd0
      have hLn : L.length = n := by omega
      clear hd0
      go_enter Tryz.func139, Tryz.ntmps139
      go_wp2_with (first
        | (go_at_call 119; refine (scanGood_blk sb _ _ true _ hc).mono ?_; rintro e w1 ⟨rfl, rfl⟩))
      go_ret2
      obtain ⟨m1, _, _⟩ := scan_moved n (HT.out (.slice (some a) 0 0)) Hin.out Hg.out Hne.out
      rw [Hd0.out]
      exact ⟨_, rfl, m1, Hg.out, ⟨some a, 0, HBt.out _ _ _, Nat.le_refl _, by simp [maxLen], BytesIn.nil _ _, Hg.out, (by simp), (by simp), (by simp)⟩, HT.out _⟩
    · have hcn2 : ¬ c = n := fun e => hcn e.symm
      clear hcn
      go_enter Tryz.func139, Tryz.ntmps139
      go_wp2_with (first
        | (go_at_call 119; refine (scanGood_blk sb _ _ true _ hc).mono ?_; rintro e w1 ⟨rfl, rfl⟩))
      go_ret2
      obtain ⟨m1, m2, m3⟩ := scan_moved n (HT.out (.slice (some (a.add n)) (L.length - n) (c - n))) Hin.out Hg.out Hne.out
      refine ⟨_, rfl, m1, Hg.out, ⟨some (a.add n), c - n, ?_, ?_, ?_, m2, m3, fun h => Hne.out (fun e => h (by rw [e]; exact List.drop_nil)), (by simp), (by simp)⟩, HT.out _⟩
      · rw [Hlen.out]; exact HBt.out _ _ _
      · rw [Hlen.out]; omega
      · unfold maxLen; omega

/-- Cut of a scan that no call made, and of none. -/
theorem scanCut_none (n : Int) (w : World) :
    Calls Tryz.prog 139 #[.pointer none, .int .i64 n] w fun e w' => e = .returned (.tuple #[.slice none 0 0, .bool false]) ∧ w = w' := by
  go_enter Tryz.func139, Tryz.ntmps139
  go_wp2_with (first
    | (go_at_call 119; refine (scanGood_nil _).mono ?_; rintro e w1 ⟨rfl, rfl⟩)
    | (go_at_call 138; refine (scanFail_nil _).mono ?_; rintro e w1 ⟨rfl, rfl⟩))
  go_ret2
  exact ⟨rfl, rfl⟩

theorem scanCut_zero (sb : Nat) (v : Value) (bad : Bool) (n : Int) (w : World) (h : Blk w sb 152 #[v, .bool bad, .bool false]) :
    Calls Tryz.prog 139 #[.pointer (some ⟨sb, 0, none⟩), .int .i64 n] w fun e w' =>
      e = .returned (.tuple #[.slice none 0 0, .bool false]) ∧ Blk w' sb 152 #[.slice none 0 0, .bool true, .bool false] ∧ Touch (fun i => i = sb) w w' := by
  have hc := h.cell
  have Hb := Lib.hid h
  clear h
  go_enter Tryz.func139, Tryz.ntmps139
  go_wp2_with (first
    | (go_at_call 119; refine (scanGood_blk sb _ _ false _ hc).mono ?_; rintro e w1 ⟨rfl, rfl⟩)
    | (go_at_call 138; refine (scanFail_blk sb _ _ false _ Hb.out).mono ?_; rintro e w1 ⟨rfl, hb1, ht1⟩; have Hb1 := Lib.hid hb1; have Ht1 := Lib.hid ht1; clear hb1 ht1 hc))
  go_ret2
  exact ⟨rfl, Hb1.out, Ht1.out⟩

end Go.Proofs.YthhebfknikfleaaGreat

/-
  The contracts of package scan (layer 3): New, Num, Take, Left, Bad, Done.
-/
namespace Go.Proofs.YthhebfknikfleaaGreat
open Go.RowKit

theorem rightB_zero (n : Int) : rightB 0 n = sizedB n := by
  unfold rightB
  by_cases h : sizedB n = true
  · rcases sizedB_cases h with rfl | rfl | rfl <;> decide
  · have h' : sizedB n = false := by simpa using h
    rw [h']; rfl

theorem ScanO.cells {w : World} {sb g : Nat} {L : List UInt8} {bad : Bool} (h : ScanO w sb g L bad) : ∃ p c, Blk w sb 152 #[.slice p L.length c, .bool bad, .bool true] := by
  obtain ⟨p, c, hb, _⟩ := h
  exact ⟨p, c, hb⟩

theorem scanNew_any (p : Option Addr) (l : List UInt8) (cap : Nat) (w : World) (hl : l.length ≤ 1000000000) (hb : BytesIn w p l) :
    Calls Tryz.prog 81 #[.slice p l.length cap] w fun e w' =>
      ∃ sb g, e = .returned (.pointer (some ⟨sb, 0, none⟩)) ∧ ScanO w' sb g l false ∧ w.heap.size ≤ sb ∧ w.heap.size ≤ g ∧ Touch (fun _ => False) w w' := by
  have Hb := Lib.hid hb
  clear hb
  go_enter Tryz.func81, Tryz.ntmps81
  go_wp2_with fail
  refine (clone_any p l cap w hl Hb.out).mono ?_
  rintro e w1 ⟨v, rfl, ho, hb1⟩
  have hs1 := hb1.size
  have Ho := Lib.hid ho
  have Ht1 := Lib.hid (Touch.of_below (p := fun _ => False) hb1)
  clear ho hb1
  rcases Ho.out.2 with ⟨rfl, h0⟩ | ⟨g, cap', cur, rfl, h1, h2, h3, h4, _⟩
  · have hl0 : l = [] := List.eq_nil_of_length_eq_zero h0
    subst hl0
    go_wp2
    go_ret
    exact ⟨_, _, rfl, ⟨none, 0, Blk.new _ _ _, Nat.le_refl _, by simp [maxLen], BytesIn.nil _ _, (by simp), fun h => absurd rfl h, (by simp), fun _ => rfl⟩, hs1, Nat.le_refl _, Ht1.out.alloc _⟩
  · obtain ⟨p2, c2, e2, k1, k2, k3⟩ := Ho.out.slice
    simp only [Value.slice.injEq] at e2
    obtain ⟨rfl, -, rfl⟩ := e2
    have K3 := Lib.hid k3
    have hgl : g < w1.heap.size := (Ho.out.lt g rfl).2
    clear h2 k3
    go_wp2
    go_ret
    exact ⟨_, g, rfl, ⟨some ⟨g, 0, none⟩, cap', Blk.new _ _ _, k1, k2, K3.out.alloc _, (by simp), fun _ => by omega, (by simp), (by simp)⟩, hs1, h1, Ht1.out.alloc _⟩

theorem scanDone_any (sb g : Nat) (L : List UInt8) (bad : Bool) (w : World) (h : ScanO w sb g L bad) :
    Calls Tryz.prog 83 #[.pointer (some ⟨sb, 0, none⟩)] w fun e w' => e = .returned (.bool (!bad && L.isEmpty)) ∧ w = w' := by
  obtain ⟨p, c, hb, _⟩ := h
  have hc := hb.cell
  clear hb
  generalize hm : L.isEmpty = em
  have he : ((L.length : Int) == 0) = em := by rw [← hm]; cases L <;> simp; omega
  have He := Lib.hid he
  clear hm he
  cases bad
  · go_enter Tryz.func83, Tryz.ntmps83
    go_wp2_with (first | (go_at_call 119; refine (scanGood_blk sb _ _ true _ hc).mono ?_; rintro e w1 ⟨rfl, rfl⟩))
    go_ret
    refine ⟨ret_bool ?_, rfl⟩
    have := He.out
    simpa using this
  · go_enter Tryz.func83, Tryz.ntmps83
    go_wp2_with (first | (go_at_call 119; refine (scanGood_blk sb _ _ true _ hc).mono ?_; rintro e w1 ⟨rfl, rfl⟩))
    go_ret
    exact ⟨rfl, rfl⟩

theorem scanNum_no (sb g : Nat) (L : List UInt8) (bad : Bool) (n : Int) (w : World) (h : ScanO w sb g L bad) (hn : bad = true ∨ sizedB n = false ∨ (L.length : Int) < n) :
    Calls Tryz.prog 110 #[.pointer (some ⟨sb, 0, none⟩), .int .i64 n] w fun e w' =>
      e = .returned (.int .i64 0) ∧ ScanO w' sb g [] true ∧ Touch (fun i => i = sb) w w' := by
  have hr := rightB_zero n
  have H := Lib.hid h
  by_cases hs : sizedB n = true
  · rw [hs] at hr
    have Hr := Lib.hid hr
    have Hn : Hid (bad = true ∨ n < 0 ∨ (L.length : Int) < n) := Lib.hid (by rcases hn with e | e | e; (· exact .inl e); (· rw [hs] at e; cases e); (· exact .inr (.inr e)))
    clear h hn hr hs
    go_enter Tryz.func110, Tryz.ntmps110
    go_wp2_with (first
      | (go_at_call 131; refine (right_any _ _ _).mono ?_; rintro e w1 ⟨rfl, rfl⟩; rw [Hr.out])
      | (go_at_call 139; refine (scanCut_no sb g L bad n w H.out Hn.out).mono ?_; rintro e w1 ⟨rfl, h1, ht1⟩; have H1 := Lib.hid h1; have Ht1 := Lib.hid ht1; clear h1 ht1))
    go_ret
    exact ⟨rfl, H1.out, Ht1.out⟩
  · have hs' : sizedB n = false := by simpa using hs
    rw [hs'] at hr
    have Hr := Lib.hid hr
    obtain ⟨p, c, hb⟩ := h.cells
    have Hb := Lib.hid hb
    clear h hn hr hs hs' hb
    go_enter Tryz.func110, Tryz.ntmps110
    go_wp2_with (first
      | (go_at_call 131; refine (right_any _ _ _).mono ?_; rintro e w1 ⟨rfl, rfl⟩; rw [Hr.out])
      | (go_at_call 138; refine (scanFail_blk sb _ _ true _ Hb.out).mono ?_; rintro e w1 ⟨rfl, hb1, ht1⟩; have Hb1 := Lib.hid hb1; have Ht1 := Lib.hid ht1; clear hb1 ht1))
    go_ret
    exact ⟨rfl, ScanO.failed Hb1.out, Ht1.out⟩

theorem scanNum_yes (sb g : Nat) (L : List UInt8) (n : Nat) (w : World) (h : ScanO w sb g L false) (hs : sizedB n = true) (hn : n ≤ L.length) :
    Calls Tryz.prog 110 #[.pointer (some ⟨sb, 0, none⟩), .int .i64 (n : Int)] w fun e w' =>
      e = .returned (.int .i64 (be (L.take n))) ∧ ScanO w' sb g (L.drop n) false ∧ Touch (fun i => i = sb) w w' := by
  have hr := rightB_zero n
  rw [hs] at hr
  have Hr := Lib.hid hr
  have H := Lib.hid h
  have htk : (L.take n).length = n := by rw [List.length_take]; omega
  have hsz := sizedB_cases hs
  have hv : getV (L.take n) 0 n = (be (L.take n), 0) := by
    rw [getV_yes hs (by omega) (by rw [htk]; omega)]
    simp [List.take_take]
  have hget : ∀ (w : World) (p : Option Addr), BytesIn w p (L.take n) → Calls Tryz.prog 140 #[.slice p n n, .int .i64 0, .int .i64 (n : Int)] w fun e w' => e = .returned (.tuple #[.int .i64 (be (L.take n)), .int .i64 0]) ∧ w = w' := by
    intro w p hin
    have := get_any p (L.take n) n 0 n w (by omega) (by unfold maxLen; omega) hin
    rw [htk, hv] at this
    exact this
  have Hget := Lib.hid hget
  clear h hr hs htk hsz hv hget
  go_enter Tryz.func110, Tryz.ntmps110
  go_wp2_with (first
    | (go_at_call 131; refine (right_any _ _ _).mono ?_; rintro e w1 ⟨rfl, rfl⟩; rw [Hr.out])
    | (go_at_call 139; refine (scanCut_yes sb g L n w H.out hn).mono ?_; rintro e w1 ⟨p, rfl, hin, _, h1, ht1⟩; have H1 := Lib.hid h1; have Ht1 := Lib.hid ht1; have Hin := Lib.hid hin; clear h1 ht1 hin)
    | (go_at_call 140; refine (Hget.out _ _ Hin.out).mono ?_; rintro e w2 ⟨rfl, rfl⟩))
  go_ret
  exact ⟨rfl, H1.out, Ht1.out⟩

end Go.Proofs.YthhebfknikfleaaGreat

/-
  The contracts of scan.Text, and of scans that no call made (layer 3).
-/
namespace Go.Proofs.YthhebfknikfleaaGreat
open Go.RowKit

theorem scanText_bad (sb g : Nat) (L : List UInt8) (w : World) (h : ScanO w sb g L true) :
    Calls Tryz.prog 111 #[.pointer (some ⟨sb, 0, none⟩)] w fun e w' => e = .returned (.string ⟨#[]⟩) ∧ w = w' := by
  obtain ⟨p, c, hb, _⟩ := h
  have hc := hb.cell
  clear hb
  go_enter Tryz.func111, Tryz.ntmps111
  go_wp2_with (first | (go_at_call 119; refine (scanGood_blk sb _ _ true _ hc).mono ?_; rintro e w1 ⟨rfl, rfl⟩))
  go_ret
  exact ⟨rfl, rfl⟩

theorem scanText_no (sb g : Nat) (L : List UInt8) (w : World) (h : ScanO w sb g L false) (hi : Lib.indexByte L 0 = -1) :
    Calls Tryz.prog 111 #[.pointer (some ⟨sb, 0, none⟩)] w fun e w' => e = .returned (.string ⟨#[]⟩) ∧ ScanO w' sb g [] true ∧ Touch (fun i => i = sb) w w' := by
  obtain ⟨p, c, hb, _, _, hin, _⟩ := h
  have hc := hb.cell
  have Hb := Lib.hid hb
  have Hin := Lib.hid hin
  have Hi := Lib.hid (show Lib.indexByte L (0 : Int).toNat.toUInt8 = -1 from hi)
  clear hb hin hi
  go_enter Tryz.func111, Tryz.ntmps111
  go_wp2_with (first
    | (go_at_call 119; refine (scanGood_blk sb _ _ true _ hc).mono ?_; rintro e w1 ⟨rfl, rfl⟩)
    | (go_at_call 101; refine (bytesIndexByte p L c 0 _ Hin.out).mono ?_; rintro e w1 ⟨rfl, rfl⟩; rw [Hi.out])
    | (go_at_call 138; refine (scanFail_blk sb _ _ true _ Hb.out).mono ?_; rintro e w1 ⟨rfl, hb1, ht1⟩; have Hb1 := Lib.hid hb1; have Ht1 := Lib.hid ht1; clear hb1 ht1))
  go_ret
  exact ⟨rfl, ScanO.failed Hb1.out, Ht1.out⟩

theorem scanText_yes (sb g : Nat) (L : List UInt8) (k : Nat) (w : World) (h : ScanO w sb g L false) (hi : Lib.indexByte L 0 = k) (hk : k < L.length) :
    Calls Tryz.prog 111 #[.pointer (some ⟨sb, 0, none⟩)] w fun e w' => e = .returned (.string (strOf (L.take k))) ∧ ScanO w' sb g (L.drop (k + 1)) false ∧ Touch (fun i => i = sb) w w' := by
  have H := Lib.hid h
  obtain ⟨p, c, hb, hlc, hcm, hin, _⟩ := h
  have hc := hb.cell
  have Hin := Lib.hid hin
  have Hi := Lib.hid (show Lib.indexByte L (0 : Int).toNat.toUInt8 = k from hi)
  have hk1 : (k : Int) + 1 = ((k + 1 : Nat) : Int) := by omega
  have Hk1 := Lib.hid hk1
  have hconv : ∀ (w : World) (q : Option Addr), BytesIn w q (L.take (k + 1)) → (convert 25 9 (.slice q k (k + 1))).run Tryz.prog w = .ok (.string (strOf (L.take k))) w := by
    intro w q hq
    have h2 := hq.take k
    rw [List.take_take, Nat.min_eq_left (by omega)] at h2
    have := h2.convert (k + 1) 25 5 9 Tryz.underlying25 Tryz.underlying5 Tryz.underlying9
    rw [List.length_take, Nat.min_eq_left (by omega)] at this
    exact this
  have Hconv := Lib.hid hconv
  unfold maxLen at hcm
  clear hb hin hi hk1 hconv
  generalize strOf (L.take k) = r at Hconv
  go_enter Tryz.func111, Tryz.ntmps111
  go_wp2_with (first
    | (go_at_call 119; refine (scanGood_blk sb _ _ true _ hc).mono ?_; rintro e w1 ⟨rfl, rfl⟩)
    | (go_at_call 101; refine (bytesIndexByte p L c 0 _ Hin.out).mono ?_; rintro e w1 ⟨rfl, rfl⟩; rw [Hi.out])
    | (go_at_call 139; rw [Hk1.out]; refine (scanCut_yes sb g L (k + 1) _ H.out (by omega)).mono ?_; rintro e w1 ⟨q, rfl, hq, _, h1, ht1⟩; have hcv := Hconv.out _ _ hq; have H1 := Lib.hid h1; have Ht1 := Lib.hid ht1; clear h1 ht1 hq hc))
  go_ret
  exact ⟨rfl, H1.out, Ht1.out⟩

end Go.Proofs.YthhebfknikfleaaGreat

/-
  The contracts of remudaref03 (layer 3): New, Num, Take, Left, Done.
-/
namespace Go.Proofs.YthhebfknikfleaaGreat
open Go.RowKit

/-- The document's scan in memory. -/
def RefS (w : World) (xb g : Nat) (L : List UInt8) (no : Bool) : Prop :=
  ∃ p c, Blk w xb 161 #[.slice p L.length c, .bool no] ∧ L.length ≤ c ∧ c ≤ maxLen ∧ BytesIn w p L ∧ (∀ x, p = some x → x.block = g) ∧ (L ≠ [] → g ≠ xb) ∧ (p = none → c = 0)

theorem RefS.touch {w w' : World} {xb g : Nat} {L : List UInt8} {no : Bool} {p : Nat → Prop} (h : RefS w xb g L no) (ht : Touch p w w') (h1 : ¬ p xb) (h2 : L ≠ [] → ¬ p g) : RefS w' xb g L no := by
  obtain ⟨q, c, hb, h3, h4, h5, h6, h7, h8⟩ := h
  exact ⟨q, c, ht.blk hb h1, h3, h4, ht.bytesIn h5 (fun hne x hx => by rw [h6 x hx]; exact h2 hne), h6, h7, h8⟩

theorem RefS.lt {w : World} {xb g : Nat} {L : List UInt8} {no : Bool} (h : RefS w xb g L no) : xb < w.heap.size := by
  obtain ⟨q, c, hb, _⟩ := h
  exact hb.lt

theorem refSNew_any (p : Option Addr) (l : List UInt8) (cap : Nat) (w : World) (hl : l.length ≤ 1000000000) (hb : BytesIn w p l) :
    Calls Tryz.prog 84 #[.slice p l.length cap] w fun e w' =>
      ∃ xb g, e = .returned (.pointer (some ⟨xb, 0, none⟩)) ∧ RefS w' xb g l false ∧ w.heap.size ≤ xb ∧ w.heap.size ≤ g ∧ Touch (fun _ => False) w w' := by
  have Hb := Lib.hid hb
  clear hb
  go_enter Tryz.func84, Tryz.ntmps84
  go_wp2_with (at_builtin; refine step_appendB' _ rfl (.const (.slice none 0 0)) (.tmp 3) rfl w.heap.size (.slice none 0 0) [] rfl (OwnB.none _ _) p l l.length cap rfl rfl Hb.out (by simp; omega) (Nat.le_refl _) ?_; intro v w1 ho hg hn; rw [List.nil_append] at ho; have Ho := Lib.hid ho; have Ht1 : Hid (Touch (fun _ => False) w w1) := Lib.hid ((Touch.of_grown hg).mono (fun k _ e => by simp [Value.ownBlock] at e)); have hs1 := Ht1.out.size; clear ho hg hn; obtain ⟨p2, n2, c2, rfl⟩ : ∃ p n c, v = .slice p n c := (by obtain ⟨p, c, h, _⟩ := Ho.out.slice; exact ⟨p, _, c, h⟩))
  go_ret
  obtain ⟨p', c', e, k1, k2, k3⟩ := Ho.out.slice
  simp only [Value.slice.injEq] at e
  obtain ⟨rfl, rfl, rfl⟩ := e
  rcases Ho.out.2 with ⟨e, h0⟩ | ⟨g, cap', cur, e, h1, h2, h3, h4, _⟩
  · simp only [Value.slice.injEq] at e
    obtain ⟨rfl, -, rfl⟩ := e
    have hl0 : l = [] := List.eq_nil_of_length_eq_zero h0
    subst hl0
    exact ⟨_, w.heap.size, rfl, ⟨none, 0, Blk.new _ _ _, Nat.le_refl _, by simp [maxLen], BytesIn.nil _ _, (by simp), fun h => absurd rfl h, fun _ => rfl⟩, hs1, Nat.le_refl _, Ht1.out.alloc _⟩
  · simp only [Value.slice.injEq] at e
    obtain ⟨rfl, -, rfl⟩ := e
    have hgl : g < w1.heap.size := (Ho.out.lt g rfl).2
    exact ⟨_, g, rfl, ⟨some ⟨g, 0, none⟩, c2, Blk.new _ _ _, k1, k2, k3.alloc _, (by simp), fun _ => by omega, (by simp)⟩, hs1, h1, Ht1.out.alloc _⟩

theorem refSDone_any (xb g : Nat) (L : List UInt8) (no : Bool) (w : World) (h : RefS w xb g L no) :
    Calls Tryz.prog 86 #[.pointer (some ⟨xb, 0, none⟩)] w fun e w' => e = .returned (.bool (!no && L.isEmpty)) ∧ w = w' := by
  obtain ⟨p, c, hb, _⟩ := h
  have hc := hb.cell
  clear hb
  generalize hm : L.isEmpty = em
  have he : ((L.length : Int) == 0) = em := by rw [← hm]; cases L <;> simp; omega
  have He := Lib.hid he
  clear hm he
  cases no
  · go_enter Tryz.func86, Tryz.ntmps86
    go_wp2
    go_ret
    refine ⟨ret_bool ?_, rfl⟩
    have := He.out
    simpa using this
  · go_enter Tryz.func86, Tryz.ntmps86
    go_wp2
    go_ret
    exact ⟨rfl, rfl⟩

end Go.Proofs.YthhebfknikfleaaGreat

/-
  The contracts of remudaref03 (layer 3): Num, Take.
-/
namespace Go.Proofs.YthhebfknikfleaaGreat
open Go.RowKit

theorem refSNum_no (xb g : Nat) (L : List UInt8) (no : Bool) (n : Int) (w : World) (h : RefS w xb g L no) (hn : no = true ∨ sizedB n = false ∨ (L.length : Int) < n) :
    Calls Tryz.prog 120 #[.pointer (some ⟨xb, 0, none⟩), .int .i64 n] w fun e w' =>
      e = .returned (.int .i64 0) ∧ RefS w' xb g L true ∧ Touch (fun i => i = xb) w w' := by
  obtain ⟨p, c, hb, h1, h2, h3, h4, h5, h6⟩ := h
  have hc := hb.cell
  have hf := hb.frozen 1
  have Hin := Lib.hid h3
  have hT : Touch (fun i => i = xb) w (w.setCell ⟨xb, 1, none⟩ (.bool true)) := (Touch.refl (fun i => i = xb) w).setCell (x := ⟨xb, 1, none⟩) (fun _ => rfl) _
  have Hend : Hid (RefS (w.setCell ⟨xb, 1, none⟩ (.bool true)) xb g L true ∧ Touch (fun i => i = xb) w (w.setCell ⟨xb, 1, none⟩ (.bool true))) := Lib.hid ⟨⟨p, c, by have := hb.set_ 1 (.bool true); simpa using this, h1, h2, hT.bytesIn h3 (fun hne x hx e => h5 hne (by rw [← h4 x hx]; exact e)), h4, h5, h6⟩, hT⟩
  have hgetv : getV L 0 n = (0, 1) ∨ getV L 0 n = (0, 3) ∨ no = true := by
    rcases hn with e | e | e
    · exact .inr (.inr e)
    · exact .inl (getV_arg (.inl e))
    · by_cases hs : sizedB n = true
      · exact .inr (.inl (getV_short hs (by omega) (by omega)))
      · exact .inl (getV_arg (.inl (by simpa using hs)))
  have Hg := Lib.hid (fun w => getR_any p L c 0 n w h1 h2)
  clear hb h3 h4 h5 h6 hT hn
  cases no
  · have hv : ∃ r : Int, (r = 1 ∨ r = 3) ∧ getV L 0 n = (0, r) := by
      rcases hgetv with e | e | e
      · exact ⟨1, .inl rfl, e⟩
      · exact ⟨3, .inr rfl, e⟩
      · cases e
    obtain ⟨r, hr, hv⟩ := hv
    have Hv := Lib.hid hv
    clear hgetv hv
    have hr0 : (r == 0) = false := by simp; omega
    go_enter Tryz.func120, Tryz.ntmps120
    go_wp2_with (first | (go_at_call 144; refine (Hg.out _ Hin.out).mono ?_; rintro e w1 ⟨rfl, rfl⟩; rw [Hv.out]))
    go_ret
    exact ⟨rfl, Hend.out⟩
  · clear hgetv
    go_enter Tryz.func120, Tryz.ntmps120
    go_wp2_with (first | (go_at_call 144; refine (Hg.out _ Hin.out).mono ?_; rintro e w1 ⟨rfl, rfl⟩; generalize (getV L 0 n).1 = r1; generalize (getV L 0 n).2 = r2))
    go_ret
    exact ⟨rfl, Hend.out⟩

/-- The rest of the slice, as it is stored. -/
theorem refS_cut {w : World} {xb g : Nat} {L : List UInt8} (h : RefS w xb g L false) (n : Nat) (hn : n ≤ L.length) :
    ∃ p c, (∀ i, w.cell? ⟨xb, i, none⟩ = (#[.slice p L.length c, .bool false] : Array Value)[i]?) ∧ w.frozen? ⟨xb, 0, none⟩ = false ∧ L.length ≤ c ∧ c ≤ maxLen ∧ BytesIn w p L ∧ (∀ x, p = some x → x.block = g) ∧ (L ≠ [] → g ≠ xb) ∧
      ((n = c ∧ RefS (w.setCell ⟨xb, 0, none⟩ (.slice p 0 0)) xb g (L.drop n) false ∧ Touch (fun i => i = xb) w (w.setCell ⟨xb, 0, none⟩ (.slice p 0 0))) ∨
       (¬ n = c ∧ ∃ a, p = some a ∧ RefS (w.setCell ⟨xb, 0, none⟩ (.slice (some (a.add n)) (L.length - n) (c - n))) xb g (L.drop n) false ∧ Touch (fun i => i = xb) w (w.setCell ⟨xb, 0, none⟩ (.slice (some (a.add n)) (L.length - n) (c - n))))) := by
  obtain ⟨p, c, hb, h1, h2, h3, h4, h5, h6⟩ := h
  have hT : ∀ u, Touch (fun i => i = xb) w (w.setCell ⟨xb, 0, none⟩ u) := fun u => (Touch.refl (fun i => i = xb) w).setCell (x := ⟨xb, 0, none⟩) (fun _ => rfl) u
  have hB : ∀ u, Blk (w.setCell ⟨xb, 0, none⟩ u) xb 161 #[u, .bool false] := fun u => by
    have := hb.set_ 0 u
    simpa using this
  refine ⟨p, c, hb.cell, hb.frozen 0, h1, h2, h3, h4, h5, ?_⟩
  by_cases hc : n = c
  · refine .inl ⟨hc, ?_, hT _⟩
    have hd : L.drop n = [] := List.eq_nil_of_length_eq_zero (by rw [List.length_drop]; omega)
    rw [hd]
    exact ⟨p, 0, hB _, Nat.le_refl _, by simp [maxLen], BytesIn.nil _ _, h4, fun h => absurd rfl h, fun _ => rfl⟩
  · refine .inr ⟨hc, ?_⟩
    cases p with
    | none => exact absurd (h6 rfl) (by omega)
    | some a =>
      refine ⟨a, rfl, ?_, hT _⟩
      obtain ⟨_, m2, m3⟩ := scan_moved n (hT (.slice (some (a.add n)) (L.length - n) (c - n))) h3 h4 h5
      have hl : (L.drop n).length = L.length - n := List.length_drop
      exact ⟨some (a.add n), c - n, by rw [hl]; exact hB _, by rw [hl]; omega, by omega, m2, m3, fun h => h5 (fun e => h (by rw [e]; exact List.drop_nil)), (by simp)⟩

theorem refSNum_yes (xb g : Nat) (L : List UInt8) (n : Nat) (w : World) (h : RefS w xb g L false) (hs : sizedB n = true) (hn : n ≤ L.length) :
    Calls Tryz.prog 120 #[.pointer (some ⟨xb, 0, none⟩), .int .i64 (n : Int)] w fun e w' =>
      e = .returned (.int .i64 (be (L.take n))) ∧ RefS w' xb g (L.drop n) false ∧ Touch (fun i => i = xb) w w' := by
  obtain ⟨p, c, hc, hf, h1, h2, hin, _, _, hend⟩ := refS_cut h n hn
  have hsz := sizedB_cases hs
  have hv : getV L 0 n = (be (L.take n), 0) := by
    rw [getV_yes hs (by omega) (by omega)]
    simp
  have Hg := Lib.hid (getR_any p L c 0 n w h1 h2 hin)
  have Hv := Lib.hid hv
  have h2' := h2
  unfold maxLen at h2'
  generalize be (L.take n) = r at Hv
  clear h hs hsz hv hin
  rcases hend with ⟨e, hr, ht⟩ | ⟨hne, a, rfl, hr, ht⟩
  · subst e
    have Hr := Lib.hid hr
    have Ht := Lib.hid ht
    clear hr ht
    go_enter Tryz.func120, Tryz.ntmps120
    go_wp2_with (first | (go_at_call 144; refine Hg.out.mono ?_; rintro e w1 ⟨rfl, rfl⟩; rw [Hv.out]))
    go_ret
    exact ⟨rfl, Hr.out, Ht.out⟩
  · have Hr := Lib.hid hr
    have Ht := Lib.hid ht
    have hne2 : ¬ c = n := fun e => hne e.symm
    clear hr ht hne
    go_enter Tryz.func120, Tryz.ntmps120
    go_wp2_with (first | (go_at_call 144; refine Hg.out.mono ?_; rintro e w1 ⟨rfl, rfl⟩; rw [Hv.out]))
    go_ret
    exact ⟨rfl, Hr.out, Ht.out⟩

/-- The document's scan, its slice named. -/
def RefC (w : World) (xb g : Nat) (L : List UInt8) (no : Bool) (p : Option Addr) (c : Nat) : Prop :=
  Blk w xb 161 #[.slice p L.length c, .bool no] ∧ L.length ≤ c ∧ c ≤ maxLen ∧ BytesIn w p L ∧ (∀ x, p = some x → x.block = g) ∧ (L ≠ [] → g ≠ xb) ∧ (p = none → c = 0)

theorem RefC.touch {w w' : World} {xb g : Nat} {L : List UInt8} {no : Bool} {q : Option Addr} {c : Nat} {p : Nat → Prop} (h : RefC w xb g L no q c) (ht : Touch p w w') (h1 : ¬ p xb) (h2 : L ≠ [] → ¬ p g) : RefC w' xb g L no q c := by
  obtain ⟨hb, h3, h4, h5, h6, h7, h8⟩ := h
  exact ⟨ht.blk hb h1, h3, h4, ht.bytesIn h5 (fun hne x hx => by rw [h6 x hx]; exact h2 hne), h6, h7, h8⟩

theorem RefC.cut_eq {w : World} {xb g : Nat} {L : List UInt8} {p : Option Addr} {n : Nat} (h : RefC w xb g L false p n) :
    RefS (w.setCell ⟨xb, 0, none⟩ (.slice p 0 0)) xb g (L.drop n) false ∧ Touch (fun i => i = xb) w (w.setCell ⟨xb, 0, none⟩ (.slice p 0 0)) := by
  obtain ⟨hb, h1, h2, h3, h4, h5, h6⟩ := h
  have hd : L.drop n = [] := List.eq_nil_of_length_eq_zero (by rw [List.length_drop]; omega)
  have hB : Blk (w.setCell ⟨xb, 0, none⟩ (.slice p 0 0)) xb 161 #[.slice p 0 0, .bool false] := by
    have := hb.set_ 0 (.slice p 0 0)
    simpa using this
  rw [hd]
  exact ⟨⟨p, 0, hB, Nat.le_refl _, by simp [maxLen], BytesIn.nil _ _, h4, fun h => absurd rfl h, fun _ => rfl⟩, (Touch.refl (fun i => i = xb) w).setCell (x := ⟨xb, 0, none⟩) (fun _ => rfl) _⟩

theorem RefC.cut_ne {w : World} {xb g : Nat} {L : List UInt8} {a : Addr} {c : Nat} (h : RefC w xb g L false (some a) c) (n : Nat) (hn : n ≤ L.length) :
    RefS (w.setCell ⟨xb, 0, none⟩ (.slice (some (a.add n)) (L.length - n) (c - n))) xb g (L.drop n) false ∧ Touch (fun i => i = xb) w (w.setCell ⟨xb, 0, none⟩ (.slice (some (a.add n)) (L.length - n) (c - n))) := by
  obtain ⟨hb, h1, h2, h3, h4, h5, h6⟩ := h
  have hT : Touch (fun i => i = xb) w (w.setCell ⟨xb, 0, none⟩ (.slice (some (a.add n)) (L.length - n) (c - n))) := (Touch.refl (fun i => i = xb) w).setCell (x := ⟨xb, 0, none⟩) (fun _ => rfl) _
  have hB : Blk (w.setCell ⟨xb, 0, none⟩ (.slice (some (a.add n)) (L.length - n) (c - n))) xb 161 #[.slice (some (a.add n)) (L.length - n) (c - n), .bool false] := by
    have := hb.set_ 0 (.slice (some (a.add n)) (L.length - n) (c - n))
    simpa using this
  obtain ⟨_, m2, m3⟩ := scan_moved n hT h3 h4 h5
  have hl : (L.drop n).length = L.length - n := List.length_drop
  exact ⟨⟨some (a.add n), c - n, by rw [hl]; exact hB, by rw [hl]; omega, by omega, m2, m3, fun h => h5 (fun e => h (by rw [e]; exact List.drop_nil)), (by simp)⟩, hT⟩
end Go.Proofs.YthhebfknikfleaaGreat

/-
  The contract of remudaref03's Text (layer 3).
-/
namespace Go.Proofs.YthhebfknikfleaaGreat
open Go.RowKit

theorem indexByte_at : ∀ (l : List UInt8) (c : UInt8) (k : Nat), k < l.length → (∀ j, j < k → l.getD j 0 ≠ c) → l.getD k 0 = c → Lib.indexByte l c = k
  | [], _, _, h, _, _ => by simp at h
  | b :: l, c, 0, _, _, hc => by
    unfold Lib.indexByte
    have : b = c := by simpa using hc
    simp [this]
  | b :: l, c, k + 1, hk, hj, hc => by
    have hb : ¬ b = c := by simpa using hj 0 (by omega)
    have ih := indexByte_at l c k (by simpa using hk) (fun j hjk => by simpa using hj (j + 1) (by omega)) (by simpa using hc)
    unfold Lib.indexByte
    have hb' : (b == c) = false := by simpa using hb
    rw [hb', ih]
    have h1 : (((k : Int)) == -1) = false := by simp
    rw [h1]
    simp

theorem indexByte_none : ∀ (l : List UInt8) (c : UInt8), (∀ j, j < l.length → l.getD j 0 ≠ c) → Lib.indexByte l c = -1
  | [], _, _ => rfl
  | b :: l, c, hj => by
    have hb : ¬ b = c := by simpa using hj 0 (by simp)
    have ih := indexByte_none l c (fun j hjk => by simpa using hj (j + 1) (by simpa using hjk))
    unfold Lib.indexByte
    have hb' : (b == c) = false := by simpa using hb
    rw [hb', ih]
    simp

/-- What Text answers. -/
def TextR (xb g : Nat) (L : List UInt8) (no : Bool) (e : Ending) (w' : World) : Prop :=
  (no = false ∧ ∃ k, Lib.indexByte L 0 = (k : Nat) ∧ k < L.length ∧ e = .returned (.string (strOf (L.take k))) ∧ RefS w' xb g (L.drop (k + 1)) false) ∨
    ((no = true ∨ Lib.indexByte L 0 = -1) ∧ e = .returned (.string ⟨#[]⟩) ∧ RefS w' xb g L true)

set_option maxHeartbeats 1000000 in
set_option maxRecDepth 100000 in
theorem refSText_any (xb g : Nat) (L : List UInt8) (no : Bool) (w : World) (h : RefS w xb g L no) (hL : L.length ≤ 1000000000) :
    Calls Tryz.prog 121 #[.pointer (some ⟨xb, 0, none⟩)] w fun e w' =>
      TextR xb g L no e w' ∧ Touch (fun i => i = xb) w w' := by
  obtain ⟨p, c, hC⟩ := h
  have HC : Hid (RefC w xb g L no p c) := Lib.hid hC
  obtain ⟨hb, h1, h2, h3, h4, h5, h6⟩ := hC
  have hc := hb.cell
  have hf0 := hb.frozen 0
  have hf1 := hb.frozen 1
  have hT : Touch (fun i => i = xb) w (w.setCell ⟨xb, 1, none⟩ (.bool true)) := (Touch.refl (fun i => i = xb) w).setCell (x := ⟨xb, 1, none⟩) (fun _ => rfl) _
  have Hend : Hid (RefS (w.setCell ⟨xb, 1, none⟩ (.bool true)) xb g L true ∧ Touch (fun i => i = xb) w (w.setCell ⟨xb, 1, none⟩ (.bool true))) := Lib.hid ⟨⟨p, c, by have := hb.set_ 1 (.bool true); simpa using this, h1, h2, hT.bytesIn h3 (fun hne x hx e => h5 hne (by rw [← h4 x hx]; exact e)), h4, h5, h6⟩, hT⟩
  have Hin := Lib.hid h3
  have H6 := Lib.hid h6
  have h2' := h2
  unfold maxLen at h2'
  clear hb h3 h4 h5 h6 h2 hT
  go_enter Tryz.func121, Tryz.ntmps121
  go_wp2
  go_loop [3] (fun i => ∃ k : Nat, k ≤ L.length ∧ i = .int .i64 k ∧ ∀ j, j < k → L.getD j 0 ≠ 0) (fun i => L.length - (intOf i).toNat)
  case atStart => exact ⟨0, Nat.zero_le _, rfl, fun j h => by omega⟩
  case round =>
    obtain ⟨k, hk, rfl, hall⟩ := hrel
    have Hall := Lib.hid hall
    clear hall
    by_cases hlt : k < L.length
    · cases no
      · obtain ⟨b, o, rfl⟩ := Hin.out.addr (by omega)
        have hcell := Hin.out.cellAt k hlt
        have hu := u8_bd (L.getD k 0)
        have hconv : (convert 25 9 (.slice (some ⟨b, o, none⟩) k c)).run Tryz.prog w = .ok (.string (strOf (L.take k))) w := by
          have := (Hin.out.take k).convert c 25 5 9 Tryz.underlying25 Tryz.underlying5 Tryz.underlying9
          rw [List.length_take, Nat.min_eq_left (by omega)] at this
          exact this
        generalize hs : strOf (L.take k) = str at hconv
        have Hs := Lib.hid hs
        clear hs
        by_cases hz : L.getD k 0 = 0
        · have Hidx := Lib.hid (indexByte_at L 0 k hlt Hall.out hz)
          have hz0 : ((L.getD k 0).toNat : Int) = 0 := by rw [hz]; rfl
          rw [hz0] at hcell
          clear hu hz hz0
          by_cases hck : k + 1 = c
          · have HC2 : Hid (RefC w xb g L false (some ⟨b, o, none⟩) (k + 1)) := Lib.hid (by rw [hck]; exact HC.out)
            have hck2 : ¬ c = k := by omega
            go_wp2
            go_ret
            obtain ⟨k1, k2⟩ := HC2.out.cut_eq
            exact ⟨.inl ⟨rfl, k, Hidx.out, hlt, by rw [Hs.out]; rfl, k1⟩, k2⟩
          · have hck2 : ¬ c = k + 1 := fun e => hck e.symm
            go_wp2
            go_ret
            obtain ⟨k1, k2⟩ := HC.out.cut_ne (k + 1) (by omega)
            rw [Addr.add_lit] at k1 k2
            exact ⟨.inl ⟨rfl, k, Hidx.out, hlt, by rw [Hs.out]; rfl, k1⟩, k2⟩
        · have hz2 : ¬ ((L.getD k 0).toNat : Int) = 0 := by
            intro e
            apply hz
            apply UInt8.toNat_inj.1
            have h0 : (0 : UInt8).toNat = 0 := rfl
            omega
          generalize hgd : L.getD k 0 = x at hcell hu hz2
          have Hz := Lib.hid hz
          clear hz hgd
          go_wp2
          go_round
          case rel => exact ⟨k + 1, by omega, by go_num, fun j hj => by
            by_cases e : j = k
            · subst e; exact Hz.out
            · exact Hall.out j (by omega)⟩
          case measure => simp [intOf]; omega
      · go_wp2
        go_ret
        exact ⟨.inr ⟨.inl rfl, rfl, Hend.out.1⟩, Hend.out.2⟩
    · have Hidx := Lib.hid (indexByte_none L 0 (fun j hj => Hall.out j (by omega)))
      go_wp2
      go_ret
      exact ⟨.inr ⟨.inr Hidx.out, rfl, Hend.out.1⟩, Hend.out.2⟩

end Go.Proofs.YthhebfknikfleaaGreat

/-
  Both scans side by side: what each call answers, whatever the state (layer 3).
-/
namespace Go.Proofs.YthhebfknikfleaaGreat
open Go.RowKit

def numOk (L : List UInt8) (bad : Bool) (n : Int) : Bool := !bad && sizedB n && decide (n ≤ (L.length : Int))
def numV (L : List UInt8) (bad : Bool) (n : Int) : Int := if numOk L bad n then be (L.take n.toNat) else 0
def textOk (L : List UInt8) (bad : Bool) : Bool := !bad && !(Lib.indexByte L 0 == -1)
def textV (L : List UInt8) (bad : Bool) : ByteArray := if textOk L bad then strOf (L.take (Lib.indexByte L 0).toNat) else ⟨#[]⟩
def takeOk (L : List UInt8) (bad : Bool) (n : Int) : Bool := !bad && decide (0 ≤ n) && decide (n ≤ (L.length : Int))
def takeV (L : List UInt8) (bad : Bool) (n : Int) : List UInt8 := if takeOk L bad n then L.take n.toNat else []
/-- What is left: of the scan nothing, of the document's what was. -/
def nx (ok : Bool) (D E : List UInt8) : List UInt8 := if ok then D else E

theorem sizedB_nonneg {n : Int} (h : sizedB n = true) : 0 ≤ n := by rcases sizedB_cases h with rfl | rfl | rfl <;> decide

theorem scanNum_any (sb g : Nat) (L : List UInt8) (bad : Bool) (n : Int) (w : World) (h : ScanO w sb g L bad) :
    Calls Tryz.prog 110 #[.pointer (some ⟨sb, 0, none⟩), .int .i64 n] w fun e w' =>
      e = .returned (.int .i64 (numV L bad n)) ∧ ScanO w' sb g (nx (numOk L bad n) (L.drop n.toNat) []) (!numOk L bad n) ∧ Touch (fun i => i = sb) w w' := by
  by_cases hok : numOk L bad n = true
  · have hv : numV L bad n = be (L.take n.toNat) := by unfold numV; rw [if_pos hok]
    rw [hv, hok]
    unfold numOk at hok
    simp only [Bool.and_eq_true, Bool.not_eq_true', decide_eq_true_eq] at hok
    obtain ⟨⟨rfl, hs⟩, hl⟩ := hok
    obtain ⟨m, rfl⟩ := Int.eq_ofNat_of_zero_le (sizedB_nonneg hs)
    exact scanNum_yes sb g L m w h hs (by omega)
  · have hok' : numOk L bad n = false := by simpa using hok
    have hv : numV L bad n = 0 := by unfold numV; rw [if_neg hok]
    rw [hv, hok']
    unfold numOk at hok'
    refine scanNum_no sb g L bad n w h ?_
    cases bad
    · cases hs : sizedB n
      · exact .inr (.inl rfl)
      · rw [hs] at hok'
        simp at hok'
        exact .inr (.inr (by omega))
    · exact .inl rfl

theorem refSNum_any (xb g : Nat) (L : List UInt8) (no : Bool) (n : Int) (w : World) (h : RefS w xb g L no) :
    Calls Tryz.prog 120 #[.pointer (some ⟨xb, 0, none⟩), .int .i64 n] w fun e w' =>
      e = .returned (.int .i64 (numV L no n)) ∧ RefS w' xb g (nx (numOk L no n) (L.drop n.toNat) L) (!numOk L no n) ∧ Touch (fun i => i = xb) w w' := by
  by_cases hok : numOk L no n = true
  · have hv : numV L no n = be (L.take n.toNat) := by unfold numV; rw [if_pos hok]
    rw [hv, hok]
    unfold numOk at hok
    simp only [Bool.and_eq_true, Bool.not_eq_true', decide_eq_true_eq] at hok
    obtain ⟨⟨rfl, hs⟩, hl⟩ := hok
    obtain ⟨m, rfl⟩ := Int.eq_ofNat_of_zero_le (sizedB_nonneg hs)
    exact refSNum_yes xb g L m w h hs (by omega)
  · have hok' : numOk L no n = false := by simpa using hok
    have hv : numV L no n = 0 := by unfold numV; rw [if_neg hok]
    rw [hv, hok']
    unfold numOk at hok'
    refine refSNum_no xb g L no n w h ?_
    cases no
    · cases hs : sizedB n
      · exact .inr (.inl rfl)
      · rw [hs] at hok'
        simp at hok'
        exact .inr (.inr (by omega))
    · exact .inl rfl

theorem scanText_any (sb g : Nat) (L : List UInt8) (bad : Bool) (w : World) (h : ScanO w sb g L bad) :
    Calls Tryz.prog 111 #[.pointer (some ⟨sb, 0, none⟩)] w fun e w' =>
      e = .returned (.string (textV L bad)) ∧ ScanO w' sb g (nx (textOk L bad) (L.drop ((Lib.indexByte L 0).toNat + 1)) []) (!textOk L bad) ∧ Touch (fun i => i = sb) w w' := by
  cases bad
  · rcases indexByte_spec L 0 with hi | ⟨k, hi, hk⟩
    · have hok : textOk L false = false := by unfold textOk; rw [hi]; rfl
      have hv : textV L false = ⟨#[]⟩ := by unfold textV; rw [hok]; rfl
      rw [hv, hok]
      exact scanText_no sb g L w h hi
    · have hok : textOk L false = true := by unfold textOk; rw [hi]; simp
      have hv : textV L false = strOf (L.take k) := by unfold textV; rw [hok, hi]; simp
      rw [hv, hok, hi]
      exact scanText_yes sb g L k w h hi hk
  · have hL : L = [] := by
      obtain ⟨p, c, _, _, _, _, _, _, h6, _⟩ := h
      exact h6 rfl
    subst hL
    refine (scanText_bad sb g [] w h).mono ?_
    rintro e w' ⟨rfl, rfl⟩
    exact ⟨rfl, h, Touch.refl _ _⟩

theorem refSText_full (xb g : Nat) (L : List UInt8) (no : Bool) (w : World) (h : RefS w xb g L no) (hL : L.length ≤ 1000000000) :
    Calls Tryz.prog 121 #[.pointer (some ⟨xb, 0, none⟩)] w fun e w' =>
      e = .returned (.string (textV L no)) ∧ RefS w' xb g (nx (textOk L no) (L.drop ((Lib.indexByte L 0).toNat + 1)) L) (!textOk L no) ∧ Touch (fun i => i = xb) w w' := by
  refine (refSText_any xb g L no w h hL).mono ?_
  rintro e w' ⟨hr, ht⟩
  rcases hr with ⟨rfl, k, hi, hk, rfl, hr⟩ | ⟨hn, rfl, hr⟩
  · have hok : textOk L false = true := by unfold textOk; rw [hi]; simp
    have hv : textV L false = strOf (L.take k) := by unfold textV; rw [hok, hi]; simp
    rw [hv, hok, hi]
    exact ⟨rfl, hr, ht⟩
  · have hok : textOk L no = false := by
      unfold textOk
      rcases hn with rfl | e
      · rfl
      · rw [e]; cases no <;> rfl
    have hv : textV L no = ⟨#[]⟩ := by unfold textV; rw [hok]; rfl
    rw [hv, hok]
    exact ⟨rfl, hr, ht⟩
end Go.Proofs.YthhebfknikfleaaGreat

/-
  The document's scan (layer 3): Take.
-/
namespace Go.Proofs.YthhebfknikfleaaGreat
open Go.RowKit

theorem refSTake_no (xb g : Nat) (L : List UInt8) (no : Bool) (n : Int) (w : World) (h : RefS w xb g L no) (hn : no = true ∨ n < 0 ∨ (L.length : Int) < n) :
    Calls Tryz.prog 145 #[.pointer (some ⟨xb, 0, none⟩), .int .i64 n] w fun e w' =>
      e = .returned (.slice none 0 0) ∧ RefS w' xb g L true ∧ Touch (fun i => i = xb) w w' := by
  obtain ⟨p, c, hb, h1, h2, h3, h4, h5, h6⟩ := h
  have hc := hb.cell
  have hf := hb.frozen 1
  have hT : Touch (fun i => i = xb) w (w.setCell ⟨xb, 1, none⟩ (.bool true)) := (Touch.refl (fun i => i = xb) w).setCell (x := ⟨xb, 1, none⟩) (fun _ => rfl) _
  have Hend : Hid (RefS (w.setCell ⟨xb, 1, none⟩ (.bool true)) xb g L true ∧ Touch (fun i => i = xb) w (w.setCell ⟨xb, 1, none⟩ (.bool true))) := Lib.hid ⟨⟨p, c, by have := hb.set_ 1 (.bool true); simpa using this, h1, h2, hT.bytesIn h3 (fun hne x hx e => h5 hne (by rw [← h4 x hx]; exact e)), h4, h5, h6⟩, hT⟩
  have hbb : no = true ∨ (no = false ∧ n < 0) ∨ (no = false ∧ ¬ n < 0 ∧ (L.length : Int) < n) := by
    cases no <;> by_cases q : n < 0 <;> simp_all
  clear hb h3 h4 h5 h6 hT hn
  rcases hbb with rfl | ⟨rfl, hn⟩ | ⟨rfl, hn, hn2⟩
  all_goals
    go_enter Tryz.func145, Tryz.ntmps145
    go_wp2
    go_ret
    exact ⟨rfl, Hend.out⟩

theorem refSTake_close {B xb : Nat} {w w1 : World} {u vo : Value} {T : List UInt8} (hxl : xb < w.heap.size) (ho : OwnB B w1 vo T) (hn : ∀ k, vo.ownBlock = some k → w.heap.size ≤ k) (hT : Touch (fun _ => False) w w1)
    (ht : Touch (fun i => i = xb) w1 (w1.setCell ⟨xb, 0, none⟩ u)) : OwnB B (w1.setCell ⟨xb, 0, none⟩ u) vo T ∧ Touch (fun i => i = xb) w (w1.setCell ⟨xb, 0, none⟩ u) :=
  ⟨ho.touch ht (fun k hk e => by have := hn k hk; omega), (hT.mono (q := fun i => i = xb) (fun _ _ e => e.elim)).trans ht⟩

theorem refSTake_yes (B xb g : Nat) (L : List UInt8) (n : Nat) (w : World) (h : RefS w xb g L false) (hn : n ≤ L.length) (hL : L.length ≤ 1000000000) (hB : B ≤ w.heap.size) :
    Calls Tryz.prog 145 #[.pointer (some ⟨xb, 0, none⟩), .int .i64 (n : Int)] w fun e w' =>
      ∃ v, e = .returned v ∧ OwnB B w' v (L.take n) ∧ RefS w' xb g (L.drop n) false ∧ Touch (fun i => i = xb) w w' := by
  obtain ⟨p, c, hC⟩ := h
  have HC : Hid (RefC w xb g L false p c) := Lib.hid hC
  obtain ⟨hb, h1, h2, h3, h4, h5, h6⟩ := hC
  have hc := hb.cell
  have hxl := hb.lt
  have Htk := Lib.hid (show (L.take n).length = n by rw [List.length_take]; omega)
  have Hint := Lib.hid (h3.take n)
  have hn0 : ¬ (n : Int) < 0 := by omega
  have hn1 : ¬ (L.length : Int) < (n : Int) := by omega
  have h2' := h2
  unfold maxLen at h2'
  by_cases hcn : n = c
  · subst hcn
    clear hb h3 h4 h5 h6 h2
    go_enter Tryz.func145, Tryz.ntmps145
    go_wp2_with (at_builtin; refine step_appendB' _ rfl (.const (.slice none 0 0)) (.tmp 31) rfl B (.slice none 0 0) [] rfl (OwnB.none _ _) p (L.take n) n n Htk.out rfl Hint.out (by rw [Htk.out]; simp; omega) hB ?_; intro vo w1 ho1 hg1 hn1; have hT1 : Touch (fun _ => False) w w1 := (Touch.of_grown hg1).mono (fun k _ e => by simp [Value.ownBlock] at e); have HC1 := Lib.hid (HC.out.touch hT1 (fun e => e) (fun _ e => e)); have hc1 := HC1.out.1.cell; have hf1 := HC1.out.1.frozen 0; have Hn1 : Hid (∀ k, vo.ownBlock = some k → w.heap.size ≤ k) := Lib.hid (fun k hk => by rcases hn1 k hk with e | e; (· simp [Value.ownBlock] at e); (· exact e)); have HT1 := Lib.hid hT1; have Ho1 : Hid (OwnB B w1 vo (L.take n)) := Lib.hid ho1; clear ho1 hg1 hn1 hT1 hc)
    go_ret
    obtain ⟨k1, k2⟩ := HC1.out.cut_eq
    obtain ⟨k3, k4⟩ := refSTake_close hxl Ho1.out Hn1.out HT1.out k2
    exact ⟨_, rfl, k3, k1, k4⟩
  · have hcn2 : ¬ c = n := fun e => hcn e.symm
    cases p with
    | none => exact absurd (h6 rfl) (by omega)
    | some a =>
      clear hb h3 h4 h5 h6 h2 hcn
      go_enter Tryz.func145, Tryz.ntmps145
      go_wp2_with (at_builtin; refine step_appendB' _ rfl (.const (.slice none 0 0)) (.tmp 31) rfl B (.slice none 0 0) [] rfl (OwnB.none _ _) (some a) (L.take n) n c Htk.out rfl Hint.out (by rw [Htk.out]; simp; omega) hB ?_; intro vo w1 ho1 hg1 hn1; have hT1 : Touch (fun _ => False) w w1 := (Touch.of_grown hg1).mono (fun k _ e => by simp [Value.ownBlock] at e); have HC1 := Lib.hid (HC.out.touch hT1 (fun e => e) (fun _ e => e)); have hc1 := HC1.out.1.cell; have hf1 := HC1.out.1.frozen 0; have Hn1 : Hid (∀ k, vo.ownBlock = some k → w.heap.size ≤ k) := Lib.hid (fun k hk => by rcases hn1 k hk with e | e; (· simp [Value.ownBlock] at e); (· exact e)); have HT1 := Lib.hid hT1; have Ho1 : Hid (OwnB B w1 vo (L.take n)) := Lib.hid ho1; clear ho1 hg1 hn1 hT1 hc)
      go_ret
      obtain ⟨k1, k2⟩ := HC1.out.cut_ne n hn
      obtain ⟨k3, k4⟩ := refSTake_close hxl Ho1.out Hn1.out HT1.out k2
      exact ⟨_, rfl, k3, k1, k4⟩

end Go.Proofs.YthhebfknikfleaaGreat

/-
  Package scan (layer 3): Bad, Take.
-/
namespace Go.Proofs.YthhebfknikfleaaGreat
open Go.RowKit

theorem scanBad_any (sb g : Nat) (L : List UInt8) (bad : Bool) (w : World) (h : ScanO w sb g L bad) :
    Calls Tryz.prog 141 #[.pointer (some ⟨sb, 0, none⟩)] w fun e w' => e = .returned (.bool bad) ∧ w = w' := by
  obtain ⟨p, c, hb, _⟩ := h
  have hc := hb.cell
  clear hb
  go_enter Tryz.func141, Tryz.ntmps141
  go_wp2_with (first | (go_at_call 119; refine (scanGood_blk sb _ _ true _ hc).mono ?_; rintro e w1 ⟨rfl, rfl⟩))
  go_ret
  exact ⟨ret_bool (by simp), rfl⟩

theorem scanTake_no (sb g : Nat) (L : List UInt8) (bad : Bool) (n : Int) (w : World) (h : ScanO w sb g L bad) (hn : bad = true ∨ n < 0 ∨ (L.length : Int) < n) :
    Calls Tryz.prog 142 #[.pointer (some ⟨sb, 0, none⟩), .int .i64 n] w fun e w' =>
      ∃ v, e = .returned v ∧ OwnB w.heap.size w' v [] ∧ ScanO w' sb g [] true ∧ Touch (fun i => i = sb) w w' := by
  have H := Lib.hid h
  have Hn := Lib.hid hn
  clear h hn
  go_enter Tryz.func142, Tryz.ntmps142
  go_wp2_with fail
  refine (scanCut_no sb g L bad n w H.out Hn.out).mono ?_
  rintro e w1 ⟨rfl, h1, ht1⟩
  have H1 := Lib.hid h1
  have Ht1 := Lib.hid ht1
  clear h1 ht1
  go_wp2_with fail
  refine (clone_any none [] 0 w1 (by simp) (BytesIn.nil _ _)).mono ?_
  rintro e w2 ⟨v, rfl, ho, hb2⟩
  have H2 := Lib.hid (H1.out.touch (Touch.of_below (p := fun _ => False) hb2) (fun e => e) (fun _ e => e))
  have Ht2 := Lib.hid (Ht1.out.then (Touch.of_below (p := fun _ => False) hb2) (fun _ _ e => e.elim))
  have Ho := Lib.hid (OwnB.base ho Ht1.out.size)
  clear ho hb2
  go_wp2
  go_ret
  exact ⟨_, rfl, Ho.out, H2.out, Ht2.out⟩

theorem scanTake_yes (sb g : Nat) (L : List UInt8) (n : Nat) (w : World) (h : ScanO w sb g L false) (hn : n ≤ L.length) (hL : L.length ≤ 1000000000) :
    Calls Tryz.prog 142 #[.pointer (some ⟨sb, 0, none⟩), .int .i64 (n : Int)] w fun e w' =>
      ∃ v, e = .returned v ∧ OwnB w.heap.size w' v (L.take n) ∧ ScanO w' sb g (L.drop n) false ∧ Touch (fun i => i = sb) w w' := by
  have H := Lib.hid h
  have Htk := Lib.hid (show (L.take n).length = n by rw [List.length_take]; omega)
  clear h
  go_enter Tryz.func142, Tryz.ntmps142
  go_wp2_with fail
  refine (scanCut_yes sb g L n w H.out hn).mono ?_
  rintro e w1 ⟨p, rfl, hin, hg, h1, ht1⟩
  have H1 := Lib.hid h1
  have Ht1 := Lib.hid ht1
  have Hin := Lib.hid hin
  have hlt : L.drop n ≠ [] → g < w1.heap.size := h1.ltg
  have Hlt := Lib.hid hlt
  clear h1 ht1 hin hg hlt
  go_wp2_with fail
  have hcl := clone_any p (L.take n) n w1 (by rw [Htk.out]; omega) Hin.out
  rw [Htk.out] at hcl
  refine hcl.mono ?_
  rintro e w2 ⟨v, rfl, ho, hb2⟩
  have H2 := Lib.hid (H1.out.touch (Touch.of_below (p := fun _ => False) hb2) (fun e => e) (fun _ e => e))
  have Ht2 := Lib.hid (Ht1.out.then (Touch.of_below (p := fun _ => False) hb2) (fun _ _ e => e.elim))
  have Ho := Lib.hid (OwnB.base ho Ht1.out.size)
  clear ho hb2 hcl
  go_wp2
  go_ret
  exact ⟨_, rfl, Ho.out, H2.out, Ht2.out⟩

end Go.Proofs.YthhebfknikfleaaGreat

/-
  Both scans side by side (layer 3): Take.
-/
namespace Go.Proofs.YthhebfknikfleaaGreat
open Go.RowKit

theorem scanTake_any (sb g : Nat) (L : List UInt8) (bad : Bool) (n : Int) (w : World) (h : ScanO w sb g L bad) (hL : L.length ≤ 1000000000) :
    Calls Tryz.prog 142 #[.pointer (some ⟨sb, 0, none⟩), .int .i64 n] w fun e w' =>
      ∃ v, e = .returned v ∧ OwnB w.heap.size w' v (takeV L bad n) ∧ ScanO w' sb g (nx (takeOk L bad n) (L.drop n.toNat) []) (!takeOk L bad n) ∧ Touch (fun i => i = sb) w w' := by
  by_cases hok : takeOk L bad n = true
  · have hv : takeV L bad n = L.take n.toNat := by unfold takeV; rw [if_pos hok]
    rw [hv, hok]
    unfold takeOk at hok
    simp only [Bool.and_eq_true, Bool.not_eq_true', decide_eq_true_eq] at hok
    obtain ⟨⟨rfl, hs⟩, hl⟩ := hok
    obtain ⟨m, rfl⟩ := Int.eq_ofNat_of_zero_le hs
    exact scanTake_yes sb g L m w h (by omega) hL
  · have hok' : takeOk L bad n = false := by simpa using hok
    have hv : takeV L bad n = [] := by unfold takeV; rw [if_neg hok]
    rw [hv, hok']
    unfold takeOk at hok'
    refine scanTake_no sb g L bad n w h ?_
    cases bad
    · simp at hok'
      exact .inr (by omega)
    · exact .inl rfl

theorem refSTake_any (xb g : Nat) (L : List UInt8) (no : Bool) (n : Int) (w : World) (h : RefS w xb g L no) (hL : L.length ≤ 1000000000) :
    Calls Tryz.prog 145 #[.pointer (some ⟨xb, 0, none⟩), .int .i64 n] w fun e w' =>
      ∃ v, e = .returned v ∧ OwnB w.heap.size w' v (takeV L no n) ∧ RefS w' xb g (nx (takeOk L no n) (L.drop n.toNat) L) (!takeOk L no n) ∧ Touch (fun i => i = xb) w w' := by
  by_cases hok : takeOk L no n = true
  · have hv : takeV L no n = L.take n.toNat := by unfold takeV; rw [if_pos hok]
    rw [hv, hok]
    unfold takeOk at hok
    simp only [Bool.and_eq_true, Bool.not_eq_true', decide_eq_true_eq] at hok
    obtain ⟨⟨rfl, hs⟩, hl⟩ := hok
    obtain ⟨m, rfl⟩ := Int.eq_ofNat_of_zero_le hs
    exact refSTake_yes w.heap.size xb g L m w h (by omega) hL (Nat.le_refl _)
  · have hok' : takeOk L no n = false := by simpa using hok
    have hv : takeV L no n = [] := by unfold takeV; rw [if_neg hok]
    rw [hv, hok']
    unfold takeOk at hok'
    refine (refSTake_no xb g L no n w h ?_).mono ?_
    · cases no
      · simp at hok'
        exact .inr (by omega)
      · exact .inl rfl
    · rintro e w' ⟨rfl, hr, ht⟩
      exact ⟨_, rfl, OwnB.none _ _, hr, ht⟩

end Go.Proofs.YthhebfknikfleaaGreat

/-
  Messages of clients (layer 6): what a body says, as a plain law.
-/
namespace Go.Proofs.YthhebfknikfleaaGreat
open Go.RowKit
set_option linter.unusedVariables false
set_option linter.unusedSimpArgs false

/-- What is left behind a step; none where it can't be had. -/
def numP (z : Nat) (L : List UInt8) : Option (Int × List UInt8) := if numOk L false z = true then some (numV L false z, L.drop z) else none
def textQ (L : List UInt8) : Option (ByteArray × List UInt8) := if textOk L false = true then some (textV L false, L.drop ((Lib.indexByte L 0).toNat + 1)) else none
def takeP (n : Int) (L : List UInt8) : Option (List UInt8 × List UInt8) := if takeOk L false n = true then some (takeV L false n, L.drop n.toNat) else none
/-- So many numbers. -/
def numsP (z : Nat) : Nat → List UInt8 → Option (List Int × List UInt8)
  | 0, L => some ([], L)
  | n + 1, L => (numP z L).bind fun a => (numsP z n a.2).bind fun b => some (a.1 :: b.1, b.2)
def listQ (z : Nat) (L : List UInt8) : Option (List Int × List UInt8) := (numP 2 L).bind fun a => numsP z a.1.toNat a.2
/-- A value. -/
def cellP (L : List UInt8) : Option (CeV × List UInt8) := (numP 4 L).bind fun a => if a.1 = 4294967295 then some (⟨true, []⟩, a.2) else (takeP a.1 a.2).bind fun b => some (⟨false, b.1⟩, b.2)
def cellsP : Nat → List UInt8 → Option (List CeV × List UInt8)
  | 0, L => some ([], L)
  | n + 1, L => (cellP L).bind fun a => (cellsP n a.2).bind fun b => some (a.1 :: b.1, b.2)
def rowQ (L : List UInt8) : Option (List CeV × List UInt8) := (numP 2 L).bind fun a => cellsP a.1.toNat a.2

/-- A step over a scan: what it answers where all goes well; where it is bad nothing is said. -/
def StepO {α : Type} (L : List UInt8) (bad : Bool) (P : List UInt8 → Option (α × List UInt8)) (x : α) (L' : List UInt8) (bad' : Bool) : Prop :=
  (bad' = false → bad = false ∧ P L = some (x, L')) ∧ (bad' = true → bad = true ∨ P L = none) ∧ L'.length ≤ L.length

end Go.Proofs.YthhebfknikfleaaGreat

