/-
  Ground: ScanB, ScanC, ScanF, ScanG, ScanH, ScanI, ScanGt, ScanBt, ScanIt, FoR, FoS, FoT, FoU.
-/
import Derived.Test.YthhebfknikfleaaPbP2
import Derived.Test.YthhebfknikfleaaPbP1
/-
  The contracts of package scan (layer 3): New, Num, Take, Left, Bad, Done.
-/
namespace Go.Proofs.Ythhebfknikfleaa
open Go.RowKit

theorem rightB_zero (n : Int) : rightB 0 n = sizedB n := by
  unfold rightB
  by_cases h : sizedB n = true
  · rcases sizedB_cases h with rfl | rfl | rfl <;> decide
  · have h' : sizedB n = false := by simpa using h
    rw [h']; rfl

theorem ScanO.cells {w : World} {sb g : Nat} {L : List UInt8} {bad : Bool} (h : ScanO w sb g L bad) : ∃ p c, Blk w sb 145 #[.slice p L.length c, .bool bad, .bool true] := by
  obtain ⟨p, c, hb, _⟩ := h
  exact ⟨p, c, hb⟩

theorem scanNew_any (p : Option Addr) (l : List UInt8) (cap : Nat) (w : World) (hl : l.length ≤ 1000000000) (hb : BytesIn w p l) :
    Calls Try.prog 74 #[.slice p l.length cap] w fun e w' =>
      ∃ sb g, e = .returned (.pointer (some ⟨sb, 0, none⟩)) ∧ ScanO w' sb g l false ∧ w.heap.size ≤ sb ∧ w.heap.size ≤ g ∧ Touch (fun _ => False) w w' := by
  have Hb := Lib.hid hb
  clear hb
  go_enter Try.func74, Try.ntmps74
  go_wp2_with fail
  refine (clone_any p l cap w hl Hb.out).mono ?_
  rintro e w1 ⟨v, rfl, ho, hb1⟩
  have hs1 := hb1.size
  have Ho := Lib.hid ho
  have Ht1 := Lib.hid (Touch.of_below (p := fun _ => False) hb1)
  clear ho hb1
  rcases Ho.out.2 with ⟨rfl, h0⟩ | ⟨g, cap', cur, rfl, h1, h2, h3, h4, _⟩
  · have hl0 : l = [] := List.eq_nil_of_length_eq_zero h0
    subst hl0
    go_wp2
    go_ret
    exact ⟨_, _, rfl, ⟨none, 0, Blk.new _ _ _, Nat.le_refl _, by simp [maxLen], BytesIn.nil _ _, (by simp), fun h => absurd rfl h, (by simp), fun _ => rfl⟩, hs1, Nat.le_refl _, Ht1.out.alloc _⟩
  · obtain ⟨p2, c2, e2, k1, k2, k3⟩ := Ho.out.slice
    simp only [Value.slice.injEq] at e2
    obtain ⟨rfl, -, rfl⟩ := e2
    have K3 := Lib.hid k3
    have hgl : g < w1.heap.size := (Ho.out.lt g rfl).2
    clear h2 k3
    go_wp2
    go_ret
    exact ⟨_, g, rfl, ⟨some ⟨g, 0, none⟩, cap', Blk.new _ _ _, k1, k2, K3.out.alloc _, (by simp), fun _ => by omega, (by simp), (by simp)⟩, hs1, h1, Ht1.out.alloc _⟩

theorem scanDone_any (sb g : Nat) (L : List UInt8) (bad : Bool) (w : World) (h : ScanO w sb g L bad) :
    Calls Try.prog 76 #[.pointer (some ⟨sb, 0, none⟩)] w fun e w' => e = .returned (.bool (!bad && L.isEmpty)) ∧ w = w' := by
  obtain ⟨p, c, hb, _⟩ := h
  have hc := hb.cell
  clear hb
  generalize hm : L.isEmpty = em
  have he : ((L.length : Int) == 0) = em := by rw [← hm]; cases L <;> simp; omega
  have He := Lib.hid he
  clear hm he
  cases bad
  · go_enter Try.func76, Try.ntmps76
    go_wp2_with (first | (go_at_call 112; refine (scanGood_blk sb _ _ true _ hc).mono ?_; rintro e w1 ⟨rfl, rfl⟩))
    go_ret
    refine ⟨ret_bool ?_, rfl⟩
    have := He.out
    simpa using this
  · go_enter Try.func76, Try.ntmps76
    go_wp2_with (first | (go_at_call 112; refine (scanGood_blk sb _ _ true _ hc).mono ?_; rintro e w1 ⟨rfl, rfl⟩))
    go_ret
    exact ⟨rfl, rfl⟩

theorem scanNum_no (sb g : Nat) (L : List UInt8) (bad : Bool) (n : Int) (w : World) (h : ScanO w sb g L bad) (hn : bad = true ∨ sizedB n = false ∨ (L.length : Int) < n) :
    Calls Try.prog 103 #[.pointer (some ⟨sb, 0, none⟩), .int .i64 n] w fun e w' =>
      e = .returned (.int .i64 0) ∧ ScanO w' sb g [] true ∧ Touch (fun i => i = sb) w w' := by
  have hr := rightB_zero n
  have H := Lib.hid h
  by_cases hs : sizedB n = true
  · rw [hs] at hr
    have Hr := Lib.hid hr
    have Hn : Hid (bad = true ∨ n < 0 ∨ (L.length : Int) < n) := Lib.hid (by rcases hn with e | e | e; (· exact .inl e); (· rw [hs] at e; cases e); (· exact .inr (.inr e)))
    clear h hn hr hs
    go_enter Try.func103, Try.ntmps103
    go_wp2_with (first
      | (go_at_call 120; refine (right_any _ _ _).mono ?_; rintro e w1 ⟨rfl, rfl⟩; rw [Hr.out])
      | (go_at_call 135; refine (scanCut_no sb g L bad n w H.out Hn.out).mono ?_; rintro e w1 ⟨rfl, h1, ht1⟩; have H1 := Lib.hid h1; have Ht1 := Lib.hid ht1; clear h1 ht1))
    go_ret
    exact ⟨rfl, H1.out, Ht1.out⟩
  · have hs' : sizedB n = false := by simpa using hs
    rw [hs'] at hr
    have Hr := Lib.hid hr
    obtain ⟨p, c, hb⟩ := h.cells
    have Hb := Lib.hid hb
    clear h hn hr hs hs' hb
    go_enter Try.func103, Try.ntmps103
    go_wp2_with (first
      | (go_at_call 120; refine (right_any _ _ _).mono ?_; rintro e w1 ⟨rfl, rfl⟩; rw [Hr.out])
      | (go_at_call 134; refine (scanFail_blk sb _ _ true _ Hb.out).mono ?_; rintro e w1 ⟨rfl, hb1, ht1⟩; have Hb1 := Lib.hid hb1; have Ht1 := Lib.hid ht1; clear hb1 ht1))
    go_ret
    exact ⟨rfl, ScanO.failed Hb1.out, Ht1.out⟩

theorem scanNum_yes (sb g : Nat) (L : List UInt8) (n : Nat) (w : World) (h : ScanO w sb g L false) (hs : sizedB n = true) (hn : n ≤ L.length) :
    Calls Try.prog 103 #[.pointer (some ⟨sb, 0, none⟩), .int .i64 (n : Int)] w fun e w' =>
      e = .returned (.int .i64 (be (L.take n))) ∧ ScanO w' sb g (L.drop n) false ∧ Touch (fun i => i = sb) w w' := by
  have hr := rightB_zero n
  rw [hs] at hr
  have Hr := Lib.hid hr
  have H := Lib.hid h
  have htk : (L.take n).length = n := by rw [List.length_take]; omega
  have hsz := sizedB_cases hs
  have hv : getV (L.take n) 0 n = (be (L.take n), 0) := by
    rw [getV_yes hs (by omega) (by rw [htk]; omega)]
    simp [List.take_take]
  have hget : ∀ (w : World) (p : Option Addr), BytesIn w p (L.take n) → Calls Try.prog 136 #[.slice p n n, .int .i64 0, .int .i64 (n : Int)] w fun e w' => e = .returned (.tuple #[.int .i64 (be (L.take n)), .int .i64 0]) ∧ w = w' := by
    intro w p hin
    have := get_any p (L.take n) n 0 n w (by omega) (by unfold maxLen; omega) hin
    rw [htk, hv] at this
    exact this
  have Hget := Lib.hid hget
  clear h hr hs htk hsz hv hget
  go_enter Try.func103, Try.ntmps103
  go_wp2_with (first
    | (go_at_call 120; refine (right_any _ _ _).mono ?_; rintro e w1 ⟨rfl, rfl⟩; rw [Hr.out])
    | (go_at_call 135; refine (scanCut_yes sb g L n w H.out hn).mono ?_; rintro e w1 ⟨p, rfl, hin, _, h1, ht1⟩; have H1 := Lib.hid h1; have Ht1 := Lib.hid ht1; have Hin := Lib.hid hin; clear h1 ht1 hin)
    | (go_at_call 136; refine (Hget.out _ _ Hin.out).mono ?_; rintro e w2 ⟨rfl, rfl⟩))
  go_ret
  exact ⟨rfl, H1.out, Ht1.out⟩

end Go.Proofs.Ythhebfknikfleaa

/-
  The contracts of scan.Text, and of scans that no call made (layer 3).
-/
namespace Go.Proofs.Ythhebfknikfleaa
open Go.RowKit

theorem scanText_bad (sb g : Nat) (L : List UInt8) (w : World) (h : ScanO w sb g L true) :
    Calls Try.prog 104 #[.pointer (some ⟨sb, 0, none⟩)] w fun e w' => e = .returned (.string ⟨#[]⟩) ∧ w = w' := by
  obtain ⟨p, c, hb, _⟩ := h
  have hc := hb.cell
  clear hb
  go_enter Try.func104, Try.ntmps104
  go_wp2_with (first | (go_at_call 112; refine (scanGood_blk sb _ _ true _ hc).mono ?_; rintro e w1 ⟨rfl, rfl⟩))
  go_ret
  exact ⟨rfl, rfl⟩

theorem scanText_no (sb g : Nat) (L : List UInt8) (w : World) (h : ScanO w sb g L false) (hi : Lib.indexByte L 0 = -1) :
    Calls Try.prog 104 #[.pointer (some ⟨sb, 0, none⟩)] w fun e w' => e = .returned (.string ⟨#[]⟩) ∧ ScanO w' sb g [] true ∧ Touch (fun i => i = sb) w w' := by
  obtain ⟨p, c, hb, _, _, hin, _⟩ := h
  have hc := hb.cell
  have Hb := Lib.hid hb
  have Hin := Lib.hid hin
  have Hi := Lib.hid (show Lib.indexByte L (0 : Int).toNat.toUInt8 = -1 from hi)
  clear hb hin hi
  go_enter Try.func104, Try.ntmps104
  go_wp2_with (first
    | (go_at_call 112; refine (scanGood_blk sb _ _ true _ hc).mono ?_; rintro e w1 ⟨rfl, rfl⟩)
    | (go_at_call 101; refine (bytesIndexByte p L c 0 _ Hin.out).mono ?_; rintro e w1 ⟨rfl, rfl⟩; rw [Hi.out])
    | (go_at_call 134; refine (scanFail_blk sb _ _ true _ Hb.out).mono ?_; rintro e w1 ⟨rfl, hb1, ht1⟩; have Hb1 := Lib.hid hb1; have Ht1 := Lib.hid ht1; clear hb1 ht1))
  go_ret
  exact ⟨rfl, ScanO.failed Hb1.out, Ht1.out⟩

theorem scanText_yes (sb g : Nat) (L : List UInt8) (k : Nat) (w : World) (h : ScanO w sb g L false) (hi : Lib.indexByte L 0 = k) (hk : k < L.length) :
    Calls Try.prog 104 #[.pointer (some ⟨sb, 0, none⟩)] w fun e w' => e = .returned (.string (strOf (L.take k))) ∧ ScanO w' sb g (L.drop (k + 1)) false ∧ Touch (fun i => i = sb) w w' := by
  have H := Lib.hid h
  obtain ⟨p, c, hb, hlc, hcm, hin, _⟩ := h
  have hc := hb.cell
  have Hin := Lib.hid hin
  have Hi := Lib.hid (show Lib.indexByte L (0 : Int).toNat.toUInt8 = k from hi)
  have hk1 : (k : Int) + 1 = ((k + 1 : Nat) : Int) := by omega
  have Hk1 := Lib.hid hk1
  have hconv : ∀ (w : World) (q : Option Addr), BytesIn w q (L.take (k + 1)) → (convert 37 9 (.slice q k (k + 1))).run Try.prog w = .ok (.string (strOf (L.take k))) w := by
    intro w q hq
    have h2 := hq.take k
    rw [List.take_take, Nat.min_eq_left (by omega)] at h2
    have := h2.convert (k + 1) 37 5 9 Try.underlying37 Try.underlying5 Try.underlying9
    rw [List.length_take, Nat.min_eq_left (by omega)] at this
    exact this
  have Hconv := Lib.hid hconv
  unfold maxLen at hcm
  clear hb hin hi hk1 hconv
  generalize strOf (L.take k) = r at Hconv
  go_enter Try.func104, Try.ntmps104
  go_wp2_with (first
    | (go_at_call 112; refine (scanGood_blk sb _ _ true _ hc).mono ?_; rintro e w1 ⟨rfl, rfl⟩)
    | (go_at_call 101; refine (bytesIndexByte p L c 0 _ Hin.out).mono ?_; rintro e w1 ⟨rfl, rfl⟩; rw [Hi.out])
    | (go_at_call 135; rw [Hk1.out]; refine (scanCut_yes sb g L (k + 1) _ H.out (by omega)).mono ?_; rintro e w1 ⟨q, rfl, hq, _, h1, ht1⟩; have hcv := Hconv.out _ _ hq; have H1 := Lib.hid h1; have Ht1 := Lib.hid ht1; clear h1 ht1 hq hc))
  go_ret
  exact ⟨rfl, H1.out, Ht1.out⟩

end Go.Proofs.Ythhebfknikfleaa

/-
  The contracts of remudaref03 (layer 3): New, Num, Take, Left, Done.
-/
namespace Go.Proofs.Ythhebfknikfleaa
open Go.RowKit

end Go.Proofs.Ythhebfknikfleaa

/-
  The contracts of remudaref03 (layer 3): Num, Take.
-/
namespace Go.Proofs.Ythhebfknikfleaa
open Go.RowKit

end Go.Proofs.Ythhebfknikfleaa

/-
  The contract of remudaref03's Text (layer 3).
-/
namespace Go.Proofs.Ythhebfknikfleaa
open Go.RowKit

theorem indexByte_at : ∀ (l : List UInt8) (c : UInt8) (k : Nat), k < l.length → (∀ j, j < k → l.getD j 0 ≠ c) → l.getD k 0 = c → Lib.indexByte l c = k
  | [], _, _, h, _, _ => by simp at h
  | b :: l, c, 0, _, _, hc => by
    unfold Lib.indexByte
    have : b = c := by simpa using hc
    simp [this]
  | b :: l, c, k + 1, hk, hj, hc => by
    have hb : ¬ b = c := by simpa using hj 0 (by omega)
    have ih := indexByte_at l c k (by simpa using hk) (fun j hjk => by simpa using hj (j + 1) (by omega)) (by simpa using hc)
    unfold Lib.indexByte
    have hb' : (b == c) = false := by simpa using hb
    rw [hb', ih]
    have h1 : (((k : Int)) == -1) = false := by simp
    rw [h1]
    simp

theorem indexByte_none : ∀ (l : List UInt8) (c : UInt8), (∀ j, j < l.length → l.getD j 0 ≠ c) → Lib.indexByte l c = -1
  | [], _, _ => rfl
  | b :: l, c, hj => by
    have hb : ¬ b = c := by simpa using hj 0 (by simp)
    have ih := indexByte_none l c (fun j hjk => by simpa using hj (j + 1) (by simpa using hjk))
    unfold Lib.indexByte
    have hb' : (b == c) = false := by simpa using hb
    rw [hb', ih]
    simp

end Go.Proofs.Ythhebfknikfleaa

/-
  Both scans side by side: what each call answers, whatever the state (layer 3).
-/
namespace Go.Proofs.Ythhebfknikfleaa
open Go.RowKit

def numOk (L : List UInt8) (bad : Bool) (n : Int) : Bool := !bad && sizedB n && decide (n ≤ (L.length : Int))
def numV (L : List UInt8) (bad : Bool) (n : Int) : Int := if numOk L bad n then be (L.take n.toNat) else 0
def textOk (L : List UInt8) (bad : Bool) : Bool := !bad && !(Lib.indexByte L 0 == -1)
def textV (L : List UInt8) (bad : Bool) : ByteArray := if textOk L bad then strOf (L.take (Lib.indexByte L 0).toNat) else ⟨#[]⟩
def takeOk (L : List UInt8) (bad : Bool) (n : Int) : Bool := !bad && decide (0 ≤ n) && decide (n ≤ (L.length : Int))
def takeV (L : List UInt8) (bad : Bool) (n : Int) : List UInt8 := if takeOk L bad n then L.take n.toNat else []
/-- What is left: of the scan nothing, of the document's what was. -/
def nx (ok : Bool) (D E : List UInt8) : List UInt8 := if ok then D else E

theorem sizedB_nonneg {n : Int} (h : sizedB n = true) : 0 ≤ n := by rcases sizedB_cases h with rfl | rfl | rfl <;> decide

theorem scanNum_any (sb g : Nat) (L : List UInt8) (bad : Bool) (n : Int) (w : World) (h : ScanO w sb g L bad) :
    Calls Try.prog 103 #[.pointer (some ⟨sb, 0, none⟩), .int .i64 n] w fun e w' =>
      e = .returned (.int .i64 (numV L bad n)) ∧ ScanO w' sb g (nx (numOk L bad n) (L.drop n.toNat) []) (!numOk L bad n) ∧ Touch (fun i => i = sb) w w' := by
  by_cases hok : numOk L bad n = true
  · have hv : numV L bad n = be (L.take n.toNat) := by unfold numV; rw [if_pos hok]
    rw [hv, hok]
    unfold numOk at hok
    simp only [Bool.and_eq_true, Bool.not_eq_true', decide_eq_true_eq] at hok
    obtain ⟨⟨rfl, hs⟩, hl⟩ := hok
    obtain ⟨m, rfl⟩ := Int.eq_ofNat_of_zero_le (sizedB_nonneg hs)
    exact scanNum_yes sb g L m w h hs (by omega)
  · have hok' : numOk L bad n = false := by simpa using hok
    have hv : numV L bad n = 0 := by unfold numV; rw [if_neg hok]
    rw [hv, hok']
    unfold numOk at hok'
    refine scanNum_no sb g L bad n w h ?_
    cases bad
    · cases hs : sizedB n
      · exact .inr (.inl rfl)
      · rw [hs] at hok'
        simp at hok'
        exact .inr (.inr (by omega))
    · exact .inl rfl

theorem scanText_any (sb g : Nat) (L : List UInt8) (bad : Bool) (w : World) (h : ScanO w sb g L bad) :
    Calls Try.prog 104 #[.pointer (some ⟨sb, 0, none⟩)] w fun e w' =>
      e = .returned (.string (textV L bad)) ∧ ScanO w' sb g (nx (textOk L bad) (L.drop ((Lib.indexByte L 0).toNat + 1)) []) (!textOk L bad) ∧ Touch (fun i => i = sb) w w' := by
  cases bad
  · rcases indexByte_spec L 0 with hi | ⟨k, hi, hk⟩
    · have hok : textOk L false = false := by unfold textOk; rw [hi]; rfl
      have hv : textV L false = ⟨#[]⟩ := by unfold textV; rw [hok]; rfl
      rw [hv, hok]
      exact scanText_no sb g L w h hi
    · have hok : textOk L false = true := by unfold textOk; rw [hi]; simp
      have hv : textV L false = strOf (L.take k) := by unfold textV; rw [hok, hi]; simp
      rw [hv, hok, hi]
      exact scanText_yes sb g L k w h hi hk
  · have hL : L = [] := by
      obtain ⟨p, c, _, _, _, _, _, _, h6, _⟩ := h
      exact h6 rfl
    subst hL
    refine (scanText_bad sb g [] w h).mono ?_
    rintro e w' ⟨rfl, rfl⟩
    exact ⟨rfl, h, Touch.refl _ _⟩

end Go.Proofs.Ythhebfknikfleaa

/-
  The document's scan (layer 3): Take.
-/
namespace Go.Proofs.Ythhebfknikfleaa
open Go.RowKit

theorem refSTake_close {B xb : Nat} {w w1 : World} {u vo : Value} {T : List UInt8} (hxl : xb < w.heap.size) (ho : OwnB B w1 vo T) (hn : ∀ k, vo.ownBlock = some k → w.heap.size ≤ k) (hT : Touch (fun _ => False) w w1)
    (ht : Touch (fun i => i = xb) w1 (w1.setCell ⟨xb, 0, none⟩ u)) : OwnB B (w1.setCell ⟨xb, 0, none⟩ u) vo T ∧ Touch (fun i => i = xb) w (w1.setCell ⟨xb, 0, none⟩ u) :=
  ⟨ho.touch ht (fun k hk e => by have := hn k hk; omega), (hT.mono (q := fun i => i = xb) (fun _ _ e => e.elim)).trans ht⟩

end Go.Proofs.Ythhebfknikfleaa

/-
  Package scan (layer 3): Bad, Take.
-/
namespace Go.Proofs.Ythhebfknikfleaa
open Go.RowKit

theorem scanBad_any (sb g : Nat) (L : List UInt8) (bad : Bool) (w : World) (h : ScanO w sb g L bad) :
    Calls Try.prog 137 #[.pointer (some ⟨sb, 0, none⟩)] w fun e w' => e = .returned (.bool bad) ∧ w = w' := by
  obtain ⟨p, c, hb, _⟩ := h
  have hc := hb.cell
  clear hb
  go_enter Try.func137, Try.ntmps137
  go_wp2_with (first | (go_at_call 112; refine (scanGood_blk sb _ _ true _ hc).mono ?_; rintro e w1 ⟨rfl, rfl⟩))
  go_ret
  exact ⟨ret_bool (by simp), rfl⟩

theorem scanTake_no (sb g : Nat) (L : List UInt8) (bad : Bool) (n : Int) (w : World) (h : ScanO w sb g L bad) (hn : bad = true ∨ n < 0 ∨ (L.length : Int) < n) :
    Calls Try.prog 138 #[.pointer (some ⟨sb, 0, none⟩), .int .i64 n] w fun e w' =>
      ∃ v, e = .returned v ∧ OwnB w.heap.size w' v [] ∧ ScanO w' sb g [] true ∧ Touch (fun i => i = sb) w w' := by
  have H := Lib.hid h
  have Hn := Lib.hid hn
  clear h hn
  go_enter Try.func138, Try.ntmps138
  go_wp2_with fail
  refine (scanCut_no sb g L bad n w H.out Hn.out).mono ?_
  rintro e w1 ⟨rfl, h1, ht1⟩
  have H1 := Lib.hid h1
  have Ht1 := Lib.hid ht1
  clear h1 ht1
  go_wp2_with fail
  refine (clone_any none [] 0 w1 (by simp) (BytesIn.nil _ _)).mono ?_
  rintro e w2 ⟨v, rfl, ho, hb2⟩
  have H2 := Lib.hid (H1.out.touch (Touch.of_below (p := fun _ => False) hb2) (fun e => e) (fun _ e => e))
  have Ht2 := Lib.hid (Ht1.out.then (Touch.of_below (p := fun _ => False) hb2) (fun _ _ e => e.elim))
  have Ho := Lib.hid (OwnB.base ho Ht1.out.size)
  clear ho hb2
  go_wp2
  go_ret
  exact ⟨_, rfl, Ho.out, H2.out, Ht2.out⟩

theorem scanTake_yes (sb g : Nat) (L : List UInt8) (n : Nat) (w : World) (h : ScanO w sb g L false) (hn : n ≤ L.length) (hL : L.length ≤ 1000000000) :
    Calls Try.prog 138 #[.pointer (some ⟨sb, 0, none⟩), .int .i64 (n : Int)] w fun e w' =>
      ∃ v, e = .returned v ∧ OwnB w.heap.size w' v (L.take n) ∧ ScanO w' sb g (L.drop n) false ∧ Touch (fun i => i = sb) w w' := by
  have H := Lib.hid h
  have Htk := Lib.hid (show (L.take n).length = n by rw [List.length_take]; omega)
  clear h
  go_enter Try.func138, Try.ntmps138
  go_wp2_with fail
  refine (scanCut_yes sb g L n w H.out hn).mono ?_
  rintro e w1 ⟨p, rfl, hin, hg, h1, ht1⟩
  have H1 := Lib.hid h1
  have Ht1 := Lib.hid ht1
  have Hin := Lib.hid hin
  have hlt : L.drop n ≠ [] → g < w1.heap.size := h1.ltg
  have Hlt := Lib.hid hlt
  clear h1 ht1 hin hg hlt
  go_wp2_with fail
  have hcl := clone_any p (L.take n) n w1 (by rw [Htk.out]; omega) Hin.out
  rw [Htk.out] at hcl
  refine hcl.mono ?_
  rintro e w2 ⟨v, rfl, ho, hb2⟩
  have H2 := Lib.hid (H1.out.touch (Touch.of_below (p := fun _ => False) hb2) (fun e => e) (fun _ e => e))
  have Ht2 := Lib.hid (Ht1.out.then (Touch.of_below (p := fun _ => False) hb2) (fun _ _ e => e.elim))
  have Ho := Lib.hid (OwnB.base ho Ht1.out.size)
  clear ho hb2 hcl
  go_wp2
  go_ret
  exact ⟨_, rfl, Ho.out, H2.out, Ht2.out⟩

end Go.Proofs.Ythhebfknikfleaa

/-
  Both scans side by side (layer 3): Take.
-/
namespace Go.Proofs.Ythhebfknikfleaa
open Go.RowKit

theorem scanTake_any (sb g : Nat) (L : List UInt8) (bad : Bool) (n : Int) (w : World) (h : ScanO w sb g L bad) (hL : L.length ≤ 1000000000) :
    Calls Try.prog 138 #[.pointer (some ⟨sb, 0, none⟩), .int .i64 n] w fun e w' =>
      ∃ v, e = .returned v ∧ OwnB w.heap.size w' v (takeV L bad n) ∧ ScanO w' sb g (nx (takeOk L bad n) (L.drop n.toNat) []) (!takeOk L bad n) ∧ Touch (fun i => i = sb) w w' := by
  by_cases hok : takeOk L bad n = true
  · have hv : takeV L bad n = L.take n.toNat := by unfold takeV; rw [if_pos hok]
    rw [hv, hok]
    unfold takeOk at hok
    simp only [Bool.and_eq_true, Bool.not_eq_true', decide_eq_true_eq] at hok
    obtain ⟨⟨rfl, hs⟩, hl⟩ := hok
    obtain ⟨m, rfl⟩ := Int.eq_ofNat_of_zero_le hs
    exact scanTake_yes sb g L m w h (by omega) hL
  · have hok' : takeOk L bad n = false := by simpa using hok
    have hv : takeV L bad n = [] := by unfold takeV; rw [if_neg hok]
    rw [hv, hok']
    unfold takeOk at hok'
    refine scanTake_no sb g L bad n w h ?_
    cases bad
    · simp at hok'
      exact .inr (by omega)
    · exact .inl rfl

end Go.Proofs.Ythhebfknikfleaa

/-
  Messages of clients (layer 6): what a body says, as a plain law.
-/
namespace Go.Proofs.Ythhebfknikfleaa
open Go.RowKit
set_option linter.unusedVariables false
set_option linter.unusedSimpArgs false

/-- What is left behind a step; none where it can't be had. -/
def numP (z : Nat) (L : List UInt8) : Option (Int × List UInt8) := if numOk L false z = true then some (numV L false z, L.drop z) else none
def textQ (L : List UInt8) : Option (ByteArray × List UInt8) := if textOk L false = true then some (textV L false, L.drop ((Lib.indexByte L 0).toNat + 1)) else none
def takeP (n : Int) (L : List UInt8) : Option (List UInt8 × List UInt8) := if takeOk L false n = true then some (takeV L false n, L.drop n.toNat) else none
/-- So many numbers. -/
def numsP (z : Nat) : Nat → List UInt8 → Option (List Int × List UInt8)
  | 0, L => some ([], L)
  | n + 1, L => (numP z L).bind fun a => (numsP z n a.2).bind fun b => some (a.1 :: b.1, b.2)
def listQ (z : Nat) (L : List UInt8) : Option (List Int × List UInt8) := (numP 2 L).bind fun a => numsP z a.1.toNat a.2
/-- A value. -/
def cellP (L : List UInt8) : Option (CeV × List UInt8) := (numP 4 L).bind fun a => if a.1 = 4294967295 then some (⟨true, []⟩, a.2) else (takeP a.1 a.2).bind fun b => some (⟨false, b.1⟩, b.2)
def cellsP : Nat → List UInt8 → Option (List CeV × List UInt8)
  | 0, L => some ([], L)
  | n + 1, L => (cellP L).bind fun a => (cellsP n a.2).bind fun b => some (a.1 :: b.1, b.2)
def rowQ (L : List UInt8) : Option (List CeV × List UInt8) := (numP 2 L).bind fun a => cellsP a.1.toNat a.2

/-- A step over a scan: what it answers where all goes well; where it is bad nothing is said. -/
def StepO {α : Type} (L : List UInt8) (bad : Bool) (P : List UInt8 → Option (α × List UInt8)) (x : α) (L' : List UInt8) (bad' : Bool) : Prop :=
  (bad' = false → bad = false ∧ P L = some (x, L')) ∧ (bad' = true → bad = true ∨ P L = none) ∧ L'.length ≤ L.length

end Go.Proofs.Ythhebfknikfleaa

/-
  Messages of clients (layer 6): numbers that are read: the program's and the document's.
-/
namespace Go.Proofs.Ythhebfknikfleaa
open Go.RowKit
set_option linter.unusedVariables false
set_option linter.unusedSimpArgs false

abbrev OwnI (B : Nat) (w : World) (v : Value) (xs : List Int) : Prop := OwnS B 3 1 IntU (fun k => B ≤ k) w v xs
theorem Try.info3 : (Try.prog.info? 3).map (fun i => (i.zero, i.size, i.bytes)) = some (some (.int .i64 0), 1, 8) := by kernel_rfl
theorem info_int : ∃ i z, Try.prog.info? 3 = some i ∧ i.zero = some z ∧ i.size = 1 ∧ i.bytes = 8 ∧ z.cells.size = 1 := by
  obtain ⟨i0, hi, hz0, hz1, hz2⟩ := info_parts Try.info3
  exact ⟨i0, _, hi, hz0, hz1, hz2, rfl⟩

/-- A number behind numbers. -/
theorem step_appendI {ops : Array Oper} {rest : List Oper} {o : Oper} {a : Act} {Q : Exit → Act → World → Prop} (w : World) (hgd : o.guard = none) (s y : Operand)
    (ho : o.op = .call { callee := .builtin .append, args := #[s, y], argTypes := #[28, 28] })
    (B : Nat) (v : Value) (xs : List Int) (hsv : a.eval s = v) (hown : OwnI B w v xs) (p : Option Addr) (n c : Nat) (ys : List Int) (hx : a.eval y = .slice p n c) (hs : SliceS 1 IntU (fun k => B ≤ k ∧ rowOf v ≠ some k) w [.slice p n c] ys)
    (hroom : xs.length + ys.length ≤ 1000000) (hbase : B ≤ w.heap.size)
    (h : ∀ v' w', OwnI B w' v' (xs ++ ys) → w.grownBy w' (rowOf v) → (∀ k, rowOf v' = some k → rowOf v = some k ∨ w.heap.size ≤ k) → wpList Try.prog ops Q rest (a.put o.dst v') w') : wpList Try.prog ops Q (o :: rest) a w :=
  wpList_append_S w hgd s y 28 28 ho B 3 3 1 8 Try.underlying28 Try.underlying28 info_int IntU IntU.still IntU.one (fun k => B ≤ k) v xs hsv hown p n c ys hx hs
    (by omega) (by simp only [maxLen]; omega) hbase h

theorem numP2 (L : List UInt8) : numP 2 L = if numOk L false 2 = true then some (numV L false 2, L.drop 2) else none := rfl

/-- What holds in the loop. -/
structure NmI (zn : Nat) (R : Option (List Int × List UInt8)) (l1 : Nat) (bad1 : Bool) (m : Nat) (T : List UInt8) (b : Bool) (xs : List Int) : Prop where
  good : b = false → bad1 = false ∧ R = (numsP zn m T).map (fun q => (xs ++ q.1, q.2))
  bad : b = true → bad1 = true ∨ R = none
  len : T.length + xs.length ≤ l1 + (if b = true then 1 else 0)
theorem NmI.step {zn : Nat} {R : Option (List Int × List UInt8)} {l1 : Nat} {bad1 : Bool} {m : Nat} {T T' : List UInt8} {xs : List Int} (h : NmI zn R l1 bad1 (m + 1) T false xs) (hz : 0 < zn)
    (hT1 : numOk T false zn = true → T' = T.drop zn) (hT2 : T'.length ≤ T.length) : NmI zn R l1 bad1 m T' (!numOk T false zn) (xs ++ [numV T false zn]) := by
  obtain ⟨h1, h2⟩ := h.good rfl
  have hl := h.len
  simp only [Bool.false_eq_true, if_false, Nat.add_zero] at hl
  cases hok : numOk T false zn with
  | true =>
    have hd := hT1 hok
    subst hd
    refine ⟨fun _ => ⟨h1, ?_⟩, (fun e => by cases e), ?_⟩
    · rw [h2, numsP, numP, if_pos hok]
      simp only [Option.bind_some]
      cases numsP zn m (T.drop zn) with
      | none => rfl
      | some q => simp
    · have : zn ≤ T.length := by unfold numOk at hok; simp at hok; omega
      simp
      omega
  | false =>
    refine ⟨(fun e => by cases e), fun _ => .inr ?_, ?_⟩
    · rw [h2, numsP, numP, if_neg (by rw [hok]; decide)]
      rfl
    · simp
      omega
theorem NmI.fin {zn : Nat} {L L1 : List UInt8} {bad : Bool} {l1 : Nat} {n : Nat} {m : Nat} {T : List UInt8} {b : Bool} {xs : List Int}
    (h : NmI zn (numsP zn n L1) l1 (!numOk L bad 2) m T b xs) (hn : numV L bad 2 = n) (hL1 : numOk L bad 2 = true → L1 = L.drop 2) (hm : m = 0 ∨ b = true) (hT : T.length ≤ L.length) : StepO L bad (listQ zn) xs T b := by
  refine ⟨fun hb => ?_, fun hb => ?_, hT⟩
  · subst hb
    obtain ⟨h1, h2⟩ := h.good rfl
    have hok : numOk L bad 2 = true := by simpa using h1
    have hbf : bad = false := by unfold numOk at hok; simp at hok; exact hok.1.1
    subst hbf
    rcases hm with rfl | hb
    · refine ⟨rfl, ?_⟩
      unfold listQ
      rw [numP2, if_pos hok]
      simp only [Option.bind_some]
      rw [hn, Int.toNat_natCast, ← hL1 hok, h2]
      simp [numsP]
    · cases hb
  · rcases h.bad hb with h1 | h1
    · cases bad with
      | true => exact .inl rfl
      | false =>
        right
        have hok : numOk L false 2 = false := by simpa using h1
        unfold listQ
        rw [numP2, if_neg (by rw [hok]; decide)]
        rfl
    · cases bad with
      | true => exact .inl rfl
      | false =>
        right
        unfold listQ
        rw [numP2]
        by_cases hok : numOk L false 2 = true
        · rw [if_pos hok]
          simp only [Option.bind_some]
          rw [hn, Int.toNat_natCast, ← hL1 hok]
          exact h1
        · rw [if_neg hok]
          rfl

/-- What is read of numbers. -/
def flistR (sb g : Nat) (L : List UInt8) (bad : Bool) (zn : Nat) (w : World) (e : Ending) (w' : World) : Prop :=
  ∃ v xs L' bad', e = .returned v ∧ OwnI w.heap.size w' v xs ∧ ScanO w' sb g L' bad' ∧ StepO L bad (listQ zn) xs L' bad' ∧ Touch (fun i => i = sb) w w'

end Go.Proofs.Ythhebfknikfleaa

/-
  Messages of clients (layer 6): values that are read: the program's and the document's.
-/
namespace Go.Proofs.Ythhebfknikfleaa
open Go.RowKit
set_option linter.unusedVariables false
set_option linter.unusedSimpArgs false

abbrev OwnC (B : Nat) (w : World) (v : Value) (xs : List CeV) : Prop := OwnS B 101 2 CeS (fun k => B ≤ k) w v xs
theorem Try.info101 : (Try.prog.info? 101).map (fun i => (i.zero, i.size, i.bytes)) = some (some (.agg #[.bool false, .slice none 0 0]), 2, 32) := by kernel_rfl
theorem info_ce : ∃ i z, Try.prog.info? 101 = some i ∧ i.zero = some z ∧ i.size = 2 ∧ i.bytes = 32 ∧ z.cells.size = 2 := by
  obtain ⟨i0, hi, hz0, hz1, hz2⟩ := info_parts Try.info101
  exact ⟨i0, _, hi, hz0, hz1, hz2, rfl⟩

/-- A value behind values. -/
theorem step_appendC {ops : Array Oper} {rest : List Oper} {o : Oper} {a : Act} {Q : Exit → Act → World → Prop} (w : World) (hgd : o.guard = none) (s y : Operand)
    (ho : o.op = .call { callee := .builtin .append, args := #[s, y], argTypes := #[30, 30] })
    (B : Nat) (v : Value) (xs : List CeV) (hsv : a.eval s = v) (hown : OwnC B w v xs) (p : Option Addr) (n c : Nat) (ys : List CeV) (hx : a.eval y = .slice p n c) (hs : SliceS 2 CeS (fun k => B ≤ k ∧ rowOf v ≠ some k) w [.slice p n c] ys)
    (hroom : xs.length + ys.length ≤ 1000000) (hbase : B ≤ w.heap.size)
    (h : ∀ v' w', OwnC B w' v' (xs ++ ys) → w.grownBy w' (rowOf v) → (∀ k, rowOf v' = some k → rowOf v = some k ∨ w.heap.size ≤ k) → wpList Try.prog ops Q rest (a.put o.dst v') w') : wpList Try.prog ops Q (o :: rest) a w :=
  wpList_append_S w hgd s y 30 30 ho B 101 101 2 32 Try.underlying30 Try.underlying30 info_ce CeS CeS.still CeS.one (fun k => B ≤ k) v xs hsv hown p n c ys hx hs
    (by omega) (by simp only [maxLen]; omega) hbase h

structure CeI (R : Option (List CeV × List UInt8)) (l1 : Nat) (bad1 : Bool) (m : Nat) (T : List UInt8) (b : Bool) (xs : List CeV) : Prop where
  good : b = false → bad1 = false ∧ R = (cellsP m T).map (fun q => (xs ++ q.1, q.2))
  bad : b = true → bad1 = true ∨ R = none
  len : T.length + xs.length ≤ l1 + (if b = true then 1 else 0)
theorem numP4 (L : List UInt8) : numP 4 L = if numOk L false 4 = true then some (numV L false 4, L.drop 4) else none := rfl
section
variable {R : Option (List CeV × List UInt8)} {l1 : Nat} {bad1 : Bool} {m : Nat} {T T1 T2 : List UInt8} {xs : List CeV}
theorem CeI.null (h : CeI R l1 bad1 (m + 1) T false xs) (hok : numOk T false 4 = true) (hn : numV T false 4 = 4294967295) : CeI R l1 bad1 m (T.drop 4) false (xs ++ [⟨true, []⟩]) := by
  obtain ⟨h1, h2⟩ := h.good rfl
  have hl := h.len
  simp only [Bool.false_eq_true, if_false, Nat.add_zero] at hl
  have : 4 ≤ T.length := by unfold numOk at hok; simp at hok; omega
  refine ⟨fun _ => ⟨h1, ?_⟩, (fun e => by cases e), by simp; omega⟩
  rw [h2, cellsP, cellP, numP4, if_pos hok]
  simp only [Option.bind_some]
  rw [if_pos hn]
  simp only [Option.bind_some]
  cases cellsP m (T.drop 4) with
  | none => rfl
  | some q => simp
theorem CeI.take (h : CeI R l1 bad1 (m + 1) T false xs) (hn : numV T false 4 ≠ 4294967295) (hT1 : numOk T false 4 = true → T1 = T.drop 4) (hl1 : T1.length ≤ T.length) (hT2 : takeOk T1 (!numOk T false 4) (numV T false 4) = true → T2 = T1.drop (numV T false 4).toNat) (hl2 : T2.length ≤ T1.length) :
    CeI R l1 bad1 m T2 (!takeOk T1 (!numOk T false 4) (numV T false 4)) (xs ++ [⟨false, takeV T1 (!numOk T false 4) (numV T false 4)⟩]) := by
  obtain ⟨h1, h2⟩ := h.good rfl
  have hl := h.len
  simp only [Bool.false_eq_true, if_false, Nat.add_zero] at hl
  cases hok : numOk T false 4 with
  | false =>
    have hto : takeOk T1 (!false) (numV T false 4) = false := by unfold takeOk; simp
    rw [hto]
    refine ⟨(fun e => by cases e), fun _ => .inr ?_, by simp; omega⟩
    rw [h2, cellsP, cellP, numP4, if_neg (by rw [hok]; decide)]
    rfl
  | true =>
    have hT1' := hT1 hok
    have h4 : 4 ≤ T.length := by unfold numOk at hok; simp at hok; omega
    have hl4 : T1.length + 4 ≤ T.length := by rw [hT1', List.length_drop]; omega
    rw [hok] at hT2
    simp only [Bool.not_true] at hT2 ⊢
    cases hto : takeOk T1 false (numV T false 4) with
    | true =>
      have hT2' := hT2 hto
      refine ⟨fun _ => ⟨h1, ?_⟩, (fun e => by cases e), by simp; omega⟩
      rw [h2, cellsP, cellP, numP4, if_pos hok]
      simp only [Option.bind_some]
      rw [if_neg hn, ← hT1', takeP, if_pos hto]
      simp only [Option.bind_some]
      rw [← hT2']
      cases cellsP m T2 with
      | none => rfl
      | some q => simp
    | false =>
      refine ⟨(fun e => by cases e), fun _ => .inr ?_, by simp; omega⟩
      rw [h2, cellsP, cellP, numP4, if_pos hok]
      simp only [Option.bind_some]
      rw [if_neg hn, ← hT1', takeP, if_neg (by rw [hto]; decide)]
      rfl
end
theorem CeI.fin {L L1 : List UInt8} {bad : Bool} {l1 : Nat} {n : Nat} {m : Nat} {T : List UInt8} {b : Bool} {xs : List CeV}
    (h : CeI (cellsP n L1) l1 (!numOk L bad 2) m T b xs) (hn : numV L bad 2 = n) (hL1 : numOk L bad 2 = true → L1 = L.drop 2) (hm : m = 0 ∨ b = true) (hT : T.length ≤ L.length) : StepO L bad rowQ xs T b := by
  refine ⟨fun hb => ?_, fun hb => ?_, hT⟩
  · subst hb
    obtain ⟨h1, h2⟩ := h.good rfl
    have hok : numOk L bad 2 = true := by simpa using h1
    have hbf : bad = false := by unfold numOk at hok; simp at hok; exact hok.1.1
    subst hbf
    rcases hm with rfl | hb
    · refine ⟨rfl, ?_⟩
      unfold rowQ
      rw [numP2, if_pos hok]
      simp only [Option.bind_some]
      rw [hn, Int.toNat_natCast, ← hL1 hok, h2]
      simp [cellsP]
    · cases hb
  · rcases h.bad hb with h1 | h1
    · cases bad with
      | true => exact .inl rfl
      | false =>
        right
        have hok : numOk L false 2 = false := by simpa using h1
        unfold rowQ
        rw [numP2, if_neg (by rw [hok]; decide)]
        rfl
    · cases bad with
      | true => exact .inl rfl
      | false =>
        right
        unfold rowQ
        rw [numP2]
        by_cases hok : numOk L false 2 = true
        · rw [if_pos hok]
          simp only [Option.bind_some]
          rw [hn, Int.toNat_natCast, ← hL1 hok]
          exact h1
        · rw [if_neg hok]
          rfl
theorem nx_drop (ok : Bool) (T E : List UInt8) (k : Nat) (hE : E = [] ∨ E = T) : (ok = true → nx ok (T.drop k) E = T.drop k) ∧ (nx ok (T.drop k) E).length ≤ T.length ∧ (nx ok (T.drop k) E ≠ [] → T ≠ []) := by
  cases ok with
  | true =>
    refine ⟨fun _ => rfl, by unfold nx; simp, ?_⟩
    intro h e
    subst e
    exact h (by unfold nx; simp)
  | false =>
    refine ⟨(fun e => by cases e), ?_, ?_⟩
    · rcases hE with rfl | rfl <;> simp [nx]
    · intro h e
      subst e
      rcases hE with rfl | rfl <;> exact h rfl
theorem num16 (L : List UInt8) (bad : Bool) : ∃ nn : Nat, numV L bad 2 = (nn : Int) ∧ nn ≤ 65536 := by
  unfold numV
  split
  · have hb := be_bd (L.take (2 : Int).toNat)
    have hl : (L.take (2 : Int).toNat).length ≤ 2 := by rw [List.length_take]; exact Nat.min_le_left _ _
    obtain ⟨q, hq⟩ := Int.eq_ofNat_of_zero_le hb.1
    have h2 : be (L.take (2 : Int).toNat) < 65536 := by
      have h3 : (256 : Int) ^ (L.take (2 : Int).toNat).length ≤ 65536 := by
        generalize (L.take (2 : Int).toNat).length = q at hl
        have : q = 0 ∨ q = 1 ∨ q = 2 := by omega
        rcases this with rfl | rfl | rfl <;> decide
      omega
    exact ⟨q, hq, by omega⟩
  · exact ⟨0, rfl, by omega⟩

/-- What is read of values. -/
def frowR (sb g : Nat) (L : List UInt8) (bad : Bool) (w : World) (e : Ending) (w' : World) : Prop :=
  ∃ v xs L' bad', e = .returned v ∧ OwnC w.heap.size w' v xs ∧ ScanO w' sb g L' bad' ∧ StepO L bad rowQ xs L' bad' ∧ Touch (fun i => i = sb) w w'

end Go.Proofs.Ythhebfknikfleaa

/-
  Messages of clients (layer 6): what a body says, by its code: a plain law, and steps put together.
-/
namespace Go.Proofs.Ythhebfknikfleaa
open Go.RowKit
set_option linter.unusedVariables false
set_option linter.unusedSimpArgs false

def foZero (k : Int) : FoV := ⟨k, 0, ⟨#[]⟩, ⟨#[]⟩, ⟨#[]⟩, [], [], [], [], 0⟩
/-- What a body says, by its code, and what is left behind it. -/
def readP (k : Int) (L : List UInt8) : Option (FoV × List UInt8) :=
  if k = 80 then (textQ L).bind fun a => (textQ a.2).bind fun b => (listQ 4 b.2).bind fun c => some ({ foZero k with name := a.1, text := b.1, oids := c.1 }, c.2)
  else if k = 66 then (textQ L).bind fun a => (textQ a.2).bind fun b => (listQ 2 b.2).bind fun c => (rowQ c.2).bind fun d => (listQ 2 d.2).bind fun e =>
    some ({ foZero k with portal := a.1, name := b.1, formats := c.1, params := d.1, results := e.1 }, e.2)
  else if k = 67 ∨ k = 68 then (numP 1 L).bind fun a => (textQ a.2).bind fun b => some ((if a.1 = 83 then { foZero k with what := a.1, name := b.1 } else { foZero k with what := a.1, portal := b.1 }), b.2)
  else if k = 69 then (textQ L).bind fun a => (numP 4 a.2).bind fun b => some ({ foZero k with portal := a.1, max := signedV b.1 4 }, b.2)
  else if k = 81 then (textQ L).bind fun a => some ({ foZero k with text := a.1 }, a.2)
  else some (foZero k, L)

section
variable {α β : Type} {L L1 L2 : List UInt8} {bad b1 b2 : Bool}
theorem StepO.bind {P : List UInt8 → Option (α × List UInt8)} {Q : α → List UInt8 → Option (β × List UInt8)} {x : α} {y : β}
    (h : StepO L bad P x L1 b1) (k : StepO L1 b1 (Q x) y L2 b2) : StepO L bad (fun L => (P L).bind fun a => Q a.1 a.2) y L2 b2 := by
  obtain ⟨h1, h2, h3⟩ := h
  obtain ⟨k1, k2, k3⟩ := k
  refine ⟨fun e => ?_, fun e => ?_, Nat.le_trans k3 h3⟩
  · obtain ⟨e1, q⟩ := k1 e
    obtain ⟨e0, p⟩ := h1 e1
    exact ⟨e0, by show (P L).bind _ = _; rw [p]; exact q⟩
  · cases hb : b1 with
    | true =>
      rcases h2 hb with e0 | p
      · exact .inl e0
      · exact .inr (by show (P L).bind _ = _; rw [p]; rfl)
    | false =>
      obtain ⟨e0, p⟩ := h1 hb
      rcases k2 e with e1 | q
      · rw [hb] at e1; cases e1
      · exact .inr (by show (P L).bind _ = _; rw [p]; exact q)
theorem StepO.ret (x : α) : StepO L bad (fun L => some (x, L)) x L bad := ⟨fun e => ⟨e, rfl⟩, fun e => .inl e, Nat.le_refl _⟩
theorem StepO.of_eq {P Q : List UInt8 → Option (α × List UInt8)} {x : α} (h : StepO L bad P x L1 b1) (e : ∀ l, Q l = P l) : StepO L bad Q x L1 b1 :=
  ⟨fun a => ⟨(h.1 a).1, (e L).trans (h.1 a).2⟩, fun a => (h.2.1 a).imp id fun q => (e L).trans q, h.2.2⟩
theorem StepO.num {E : List UInt8} (hE : E = [] ∨ E = L) (z : Nat) : StepO L bad (numP z) (numV L bad z) (nx (numOk L bad z) (L.drop (z : Int).toNat) E) (!numOk L bad z) := by
  have hn := nx_drop (numOk L bad z) L E (z : Int).toNat hE
  refine ⟨fun e => ?_, fun e => ?_, hn.2.1⟩
  · have e1 : numOk L bad z = true := by simpa using e
    have e0 : bad = false := by unfold numOk at e1; simp only [Bool.and_eq_true, Bool.not_eq_true'] at e1; exact e1.1.1
    subst e0
    exact ⟨rfl, by rw [hn.1 e1]; unfold numP; rw [if_pos e1]; rfl⟩
  · have e1 : numOk L bad z = false := by simpa using e
    cases bad with
    | true => exact .inl rfl
    | false => exact .inr (by unfold numP; rw [if_neg (by rw [e1]; exact Bool.false_ne_true)])
theorem StepO.text {E : List UInt8} (hE : E = [] ∨ E = L) : StepO L bad textQ (textV L bad) (nx (textOk L bad) (L.drop ((Lib.indexByte L 0).toNat + 1)) E) (!textOk L bad) := by
  have hn := nx_drop (textOk L bad) L E ((Lib.indexByte L 0).toNat + 1) hE
  refine ⟨fun e => ?_, fun e => ?_, hn.2.1⟩
  · have e1 : textOk L bad = true := by simpa using e
    have e0 : bad = false := by unfold textOk at e1; simp only [Bool.and_eq_true, Bool.not_eq_true'] at e1; exact e1.1
    subst e0
    exact ⟨rfl, by rw [hn.1 e1]; unfold textQ; rw [if_pos e1]⟩
  · have e1 : textOk L bad = false := by simpa using e
    cases bad with
    | true => exact .inl rfl
    | false => exact .inr (by unfold textQ; rw [if_neg (by rw [e1]; exact Bool.false_ne_true)])
end

section
variable {L L1 L2 L3 L4 L5 : List UInt8} {bad b1 b2 b3 b4 b5 : Bool}
theorem readP_P {n t : ByteArray} {o : List Int} (h1 : StepO L bad textQ n L1 b1) (h2 : StepO L1 b1 textQ t L2 b2) (h3 : StepO L2 b2 (listQ 4) o L3 b3) :
    StepO L bad (readP 80) { foZero 80 with name := n, text := t, oids := o } L3 b3 :=
  (h1.bind (Q := fun n l => (textQ l).bind fun b => (listQ 4 b.2).bind fun c => some ({ foZero 80 with name := n, text := b.1, oids := c.1 }, c.2))
    (h2.bind (Q := fun t l => (listQ 4 l).bind fun c => some ({ foZero 80 with name := n, text := t, oids := c.1 }, c.2))
      (h3.bind (Q := fun o l => some ({ foZero 80 with name := n, text := t, oids := o }, l)) (StepO.ret _)))).of_eq fun l => by unfold readP; rw [if_pos rfl]
theorem readP_B {p n : ByteArray} {fs rs : List Int} {cs : List CeV} (h1 : StepO L bad textQ p L1 b1) (h2 : StepO L1 b1 textQ n L2 b2) (h3 : StepO L2 b2 (listQ 2) fs L3 b3)
    (h4 : StepO L3 b3 rowQ cs L4 b4) (h5 : StepO L4 b4 (listQ 2) rs L5 b5) :
    StepO L bad (readP 66) { foZero 66 with portal := p, name := n, formats := fs, params := cs, results := rs } L5 b5 :=
  (h1.bind (Q := fun p l => (textQ l).bind fun b => (listQ 2 b.2).bind fun c => (rowQ c.2).bind fun d => (listQ 2 d.2).bind fun e => some ({ foZero 66 with portal := p, name := b.1, formats := c.1, params := d.1, results := e.1 }, e.2))
    (h2.bind (Q := fun n l => (listQ 2 l).bind fun c => (rowQ c.2).bind fun d => (listQ 2 d.2).bind fun e => some ({ foZero 66 with portal := p, name := n, formats := c.1, params := d.1, results := e.1 }, e.2))
      (h3.bind (Q := fun fs l => (rowQ l).bind fun d => (listQ 2 d.2).bind fun e => some ({ foZero 66 with portal := p, name := n, formats := fs, params := d.1, results := e.1 }, e.2))
        (h4.bind (Q := fun cs l => (listQ 2 l).bind fun e => some ({ foZero 66 with portal := p, name := n, formats := fs, params := cs, results := e.1 }, e.2))
          (h5.bind (Q := fun rs l => some ({ foZero 66 with portal := p, name := n, formats := fs, params := cs, results := rs }, l)) (StepO.ret _)))))).of_eq
    fun l => by unfold readP; rw [if_neg (by decide), if_pos rfl]
theorem readP_C {k x : Int} (hk : k = 67 ∨ k = 68) {n : ByteArray} (h1 : StepO L bad (numP 1) x L1 b1) (h2 : StepO L1 b1 textQ n L2 b2) :
    StepO L bad (readP k) (if x = 83 then { foZero k with what := x, name := n } else { foZero k with what := x, portal := n }) L2 b2 :=
  (h1.bind (Q := fun x l => (textQ l).bind fun b => some ((if x = 83 then { foZero k with what := x, name := b.1 } else { foZero k with what := x, portal := b.1 }), b.2))
    (h2.bind (Q := fun n l => some ((if x = 83 then { foZero k with what := x, name := n } else { foZero k with what := x, portal := n }), l)) (StepO.ret _))).of_eq
    fun l => by unfold readP; rw [if_neg (by omega), if_neg (by omega), if_pos hk]
theorem readP_E {x : Int} {n : ByteArray} (h1 : StepO L bad textQ n L1 b1) (h2 : StepO L1 b1 (numP 4) x L2 b2) :
    StepO L bad (readP 69) { foZero 69 with portal := n, max := signedV x 4 } L2 b2 :=
  (h1.bind (Q := fun n l => (numP 4 l).bind fun b => some ({ foZero 69 with portal := n, max := signedV b.1 4 }, b.2))
    (h2.bind (Q := fun x l => some ({ foZero 69 with portal := n, max := signedV x 4 }, l)) (StepO.ret _))).of_eq
    fun l => by unfold readP; rw [if_neg (by decide), if_neg (by decide), if_neg (by decide), if_pos rfl]
theorem readP_Q {n : ByteArray} (h1 : StepO L bad textQ n L1 b1) : StepO L bad (readP 81) { foZero 81 with text := n } L1 b1 :=
  (h1.bind (Q := fun n l => some ({ foZero 81 with text := n }, l)) (StepO.ret _)).of_eq
    fun l => by unfold readP; rw [if_neg (by decide), if_neg (by decide), if_neg (by decide), if_neg (by decide), if_pos rfl]
theorem readP_other {k : Int} (h1 : k ≠ 80) (h2 : k ≠ 66) (h3 : ¬ (k = 67 ∨ k = 68)) (h4 : k ≠ 69) (h5 : k ≠ 81) : StepO L bad (readP k) (foZero k) L bad :=
  (StepO.ret (foZero k)).of_eq fun l => by unfold readP; rw [if_neg h1, if_neg h2, if_neg h3, if_neg h4, if_neg h5]
end

end Go.Proofs.Ythhebfknikfleaa

