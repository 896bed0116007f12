/-
  Ground: ScanH, ScanI, ScanGt, ScanBt, ScanIt, FoR, FoS.
-/
import Derived.Test.YtacnmdlefonjmaaGreatPdZP2
import Derived.Test.YtacnmdlefonjmaaGreatPdZP1
/-
  The contract of remudaref03's Text (layer 3).
-/
namespace Go.Proofs.YtacnmdlefonjmaaGreat
open Go.RowKit

theorem indexByte_at : ∀ (l : List UInt8) (c : UInt8) (k : Nat), k < l.length → (∀ j, j < k → l.getD j 0 ≠ c) → l.getD k 0 = c → Lib.indexByte l c = k
  | [], _, _, h, _, _ => by simp at h
  | b :: l, c, 0, _, _, hc => by
    unfold Lib.indexByte
    have : b = c := by simpa using hc
    simp [this]
  | b :: l, c, k + 1, hk, hj, hc => by
    have hb : ¬ b = c := by simpa using hj 0 (by omega)
    have ih := indexByte_at l c k (by simpa using hk) (fun j hjk => by simpa using hj (j + 1) (by omega)) (by simpa using hc)
    unfold Lib.indexByte
    have hb' : (b == c) = false := by simpa using hb
    rw [hb', ih]
    have h1 : (((k : Int)) == -1) = false := by simp
    rw [h1]
    simp

theorem indexByte_none : ∀ (l : List UInt8) (c : UInt8), (∀ j, j < l.length → l.getD j 0 ≠ c) → Lib.indexByte l c = -1
  | [], _, _ => rfl
  | b :: l, c, hj => by
    have hb : ¬ b = c := by simpa using hj 0 (by simp)
    have ih := indexByte_none l c (fun j hjk => by simpa using hj (j + 1) (by simpa using hjk))
    unfold Lib.indexByte
    have hb' : (b == c) = false := by simpa using hb
    rw [hb', ih]
    simp

/-- What Text answers. -/
def TextR (xb g : Nat) (L : List UInt8) (no : Bool) (e : Ending) (w' : World) : Prop :=
  (no = false ∧ ∃ k, Lib.indexByte L 0 = (k : Nat) ∧ k < L.length ∧ e = .returned (.string (strOf (L.take k))) ∧ RefS w' xb g (L.drop (k + 1)) false) ∨
    ((no = true ∨ Lib.indexByte L 0 = -1) ∧ e = .returned (.string ⟨#[]⟩) ∧ RefS w' xb g L true)

set_option maxHeartbeats 1000000 in
set_option maxRecDepth 100000 in
theorem refSText_any (xb g : Nat) (L : List UInt8) (no : Bool) (w : World) (h : RefS w xb g L no) (hL : L.length ≤ 1000000000) :
    Calls Tryz.prog 76 #[.pointer (some ⟨xb, 0, none⟩)] w fun e w' =>
      TextR xb g L no e w' ∧ Touch (fun i => i = xb) w w' := by
  obtain ⟨p, c, hC⟩ := h
  have HC : Hid (RefC w xb g L no p c) := Lib.hid hC
  obtain ⟨hb, h1, h2, h3, h4, h5, h6⟩ := hC
  have hc := hb.cell
  have hf0 := hb.frozen 0
  have hf1 := hb.frozen 1
  have hT : Touch (fun i => i = xb) w (w.setCell ⟨xb, 1, none⟩ (.bool true)) := (Touch.refl (fun i => i = xb) w).setCell (x := ⟨xb, 1, none⟩) (fun _ => rfl) _
  have Hend : Hid (RefS (w.setCell ⟨xb, 1, none⟩ (.bool true)) xb g L true ∧ Touch (fun i => i = xb) w (w.setCell ⟨xb, 1, none⟩ (.bool true))) := Lib.hid ⟨⟨p, c, by have := hb.set_ 1 (.bool true); simpa using this, h1, h2, hT.bytesIn h3 (fun hne x hx e => h5 hne (by rw [← h4 x hx]; exact e)), h4, h5, h6⟩, hT⟩
  have Hin := Lib.hid h3
  have H6 := Lib.hid h6
  have h2' := h2
  unfold maxLen at h2'
  clear hb h3 h4 h5 h6 h2 hT
  go_enter Tryz.func76, Tryz.ntmps76
  go_wp2
  go_loop [3] (fun i => ∃ k : Nat, k ≤ L.length ∧ i = .int .i64 k ∧ ∀ j, j < k → L.getD j 0 ≠ 0) (fun i => L.length - (intOf i).toNat)
  case atStart => exact ⟨0, Nat.zero_le _, rfl, fun j h => by omega⟩
  case round =>
    obtain ⟨k, hk, rfl, hall⟩ := hrel
    have Hall := Lib.hid hall
    clear hall
    by_cases hlt : k < L.length
    · cases no
      · obtain ⟨b, o, rfl⟩ := Hin.out.addr (by omega)
        have hcell := Hin.out.cellAt k hlt
        have hu := u8_bd (L.getD k 0)
        have hconv : (convert 32 9 (.slice (some ⟨b, o, none⟩) k c)).run Tryz.prog w = .ok (.string (strOf (L.take k))) w := by
          have := (Hin.out.take k).convert c 32 5 9 Tryz.underlying32 Tryz.underlying5 Tryz.underlying9
          rw [List.length_take, Nat.min_eq_left (by omega)] at this
          exact this
        generalize hs : strOf (L.take k) = str at hconv
        have Hs := Lib.hid hs
        clear hs
        by_cases hz : L.getD k 0 = 0
        · have Hidx := Lib.hid (indexByte_at L 0 k hlt Hall.out hz)
          have hz0 : ((L.getD k 0).toNat : Int) = 0 := by rw [hz]; rfl
          rw [hz0] at hcell
          clear hu hz hz0
          by_cases hck : k + 1 = c
          · have HC2 : Hid (RefC w xb g L false (some ⟨b, o, none⟩) (k + 1)) := Lib.hid (by rw [hck]; exact HC.out)
            have hck2 : ¬ c = k := by omega
            go_wp2
            go_ret
            obtain ⟨k1, k2⟩ := HC2.out.cut_eq
            exact ⟨.inl ⟨rfl, k, Hidx.out, hlt, by rw [Hs.out]; rfl, k1⟩, k2⟩
          · have hck2 : ¬ c = k + 1 := fun e => hck e.symm
            go_wp2
            go_ret
            obtain ⟨k1, k2⟩ := HC.out.cut_ne (k + 1) (by omega)
            rw [Addr.add_lit] at k1 k2
            exact ⟨.inl ⟨rfl, k, Hidx.out, hlt, by rw [Hs.out]; rfl, k1⟩, k2⟩
        · have hz2 : ¬ ((L.getD k 0).toNat : Int) = 0 := by
            intro e
            apply hz
            apply UInt8.toNat_inj.1
            have h0 : (0 : UInt8).toNat = 0 := rfl
            omega
          generalize hgd : L.getD k 0 = x at hcell hu hz2
          have Hz := Lib.hid hz
          clear hz hgd
          go_wp2
          go_round
          case rel => exact ⟨k + 1, by omega, by go_num, fun j hj => by
            by_cases e : j = k
            · subst e; exact Hz.out
            · exact Hall.out j (by omega)⟩
          case measure => simp [intOf]; omega
      · go_wp2
        go_ret
        exact ⟨.inr ⟨.inl rfl, rfl, Hend.out.1⟩, Hend.out.2⟩
    · have Hidx := Lib.hid (indexByte_none L 0 (fun j hj => Hall.out j (by omega)))
      go_wp2
      go_ret
      exact ⟨.inr ⟨.inr Hidx.out, rfl, Hend.out.1⟩, Hend.out.2⟩

end Go.Proofs.YtacnmdlefonjmaaGreat

/-
  Both scans side by side: what each call answers, whatever the state (layer 3).
-/
namespace Go.Proofs.YtacnmdlefonjmaaGreat
open Go.RowKit

def numOk (L : List UInt8) (bad : Bool) (n : Int) : Bool := !bad && sizedB n && decide (n ≤ (L.length : Int))
def numV (L : List UInt8) (bad : Bool) (n : Int) : Int := if numOk L bad n then be (L.take n.toNat) else 0
def textOk (L : List UInt8) (bad : Bool) : Bool := !bad && !(Lib.indexByte L 0 == -1)
def textV (L : List UInt8) (bad : Bool) : ByteArray := if textOk L bad then strOf (L.take (Lib.indexByte L 0).toNat) else ⟨#[]⟩
def takeOk (L : List UInt8) (bad : Bool) (n : Int) : Bool := !bad && decide (0 ≤ n) && decide (n ≤ (L.length : Int))
def takeV (L : List UInt8) (bad : Bool) (n : Int) : List UInt8 := if takeOk L bad n then L.take n.toNat else []
/-- What is left: of the scan nothing, of the document's what was. -/
def nx (ok : Bool) (D E : List UInt8) : List UInt8 := if ok then D else E

theorem sizedB_nonneg {n : Int} (h : sizedB n = true) : 0 ≤ n := by rcases sizedB_cases h with rfl | rfl | rfl <;> decide

theorem scanNum_any (sb g : Nat) (L : List UInt8) (bad : Bool) (n : Int) (w : World) (h : ScanO w sb g L bad) :
    Calls Tryz.prog 92 #[.pointer (some ⟨sb, 0, none⟩), .int .i64 n] w fun e w' =>
      e = .returned (.int .i64 (numV L bad n)) ∧ ScanO w' sb g (nx (numOk L bad n) (L.drop n.toNat) []) (!numOk L bad n) ∧ Touch (fun i => i = sb) w w' := by
  by_cases hok : numOk L bad n = true
  · have hv : numV L bad n = be (L.take n.toNat) := by unfold numV; rw [if_pos hok]
    rw [hv, hok]
    unfold numOk at hok
    simp only [Bool.and_eq_true, Bool.not_eq_true', decide_eq_true_eq] at hok
    obtain ⟨⟨rfl, hs⟩, hl⟩ := hok
    obtain ⟨m, rfl⟩ := Int.eq_ofNat_of_zero_le (sizedB_nonneg hs)
    exact scanNum_yes sb g L m w h hs (by omega)
  · have hok' : numOk L bad n = false := by simpa using hok
    have hv : numV L bad n = 0 := by unfold numV; rw [if_neg hok]
    rw [hv, hok']
    unfold numOk at hok'
    refine scanNum_no sb g L bad n w h ?_
    cases bad
    · cases hs : sizedB n
      · exact .inr (.inl rfl)
      · rw [hs] at hok'
        simp at hok'
        exact .inr (.inr (by omega))
    · exact .inl rfl

theorem refSNum_any (xb g : Nat) (L : List UInt8) (no : Bool) (n : Int) (w : World) (h : RefS w xb g L no) :
    Calls Tryz.prog 56 #[.pointer (some ⟨xb, 0, none⟩), .int .i64 n] w fun e w' =>
      e = .returned (.int .i64 (numV L no n)) ∧ RefS w' xb g (nx (numOk L no n) (L.drop n.toNat) L) (!numOk L no n) ∧ Touch (fun i => i = xb) w w' := by
  by_cases hok : numOk L no n = true
  · have hv : numV L no n = be (L.take n.toNat) := by unfold numV; rw [if_pos hok]
    rw [hv, hok]
    unfold numOk at hok
    simp only [Bool.and_eq_true, Bool.not_eq_true', decide_eq_true_eq] at hok
    obtain ⟨⟨rfl, hs⟩, hl⟩ := hok
    obtain ⟨m, rfl⟩ := Int.eq_ofNat_of_zero_le (sizedB_nonneg hs)
    exact refSNum_yes xb g L m w h hs (by omega)
  · have hok' : numOk L no n = false := by simpa using hok
    have hv : numV L no n = 0 := by unfold numV; rw [if_neg hok]
    rw [hv, hok']
    unfold numOk at hok'
    refine refSNum_no xb g L no n w h ?_
    cases no
    · cases hs : sizedB n
      · exact .inr (.inl rfl)
      · rw [hs] at hok'
        simp at hok'
        exact .inr (.inr (by omega))
    · exact .inl rfl

theorem scanText_any (sb g : Nat) (L : List UInt8) (bad : Bool) (w : World) (h : ScanO w sb g L bad) :
    Calls Tryz.prog 98 #[.pointer (some ⟨sb, 0, none⟩)] w fun e w' =>
      e = .returned (.string (textV L bad)) ∧ ScanO w' sb g (nx (textOk L bad) (L.drop ((Lib.indexByte L 0).toNat + 1)) []) (!textOk L bad) ∧ Touch (fun i => i = sb) w w' := by
  cases bad
  · rcases indexByte_spec L 0 with hi | ⟨k, hi, hk⟩
    · have hok : textOk L false = false := by unfold textOk; rw [hi]; rfl
      have hv : textV L false = ⟨#[]⟩ := by unfold textV; rw [hok]; rfl
      rw [hv, hok]
      exact scanText_no sb g L w h hi
    · have hok : textOk L false = true := by unfold textOk; rw [hi]; simp
      have hv : textV L false = strOf (L.take k) := by unfold textV; rw [hok, hi]; simp
      rw [hv, hok, hi]
      exact scanText_yes sb g L k w h hi hk
  · have hL : L = [] := by
      obtain ⟨p, c, _, _, _, _, _, _, h6, _⟩ := h
      exact h6 rfl
    subst hL
    refine (scanText_bad sb g [] w h).mono ?_
    rintro e w' ⟨rfl, rfl⟩
    exact ⟨rfl, h, Touch.refl _ _⟩

theorem refSText_full (xb g : Nat) (L : List UInt8) (no : Bool) (w : World) (h : RefS w xb g L no) (hL : L.length ≤ 1000000000) :
    Calls Tryz.prog 76 #[.pointer (some ⟨xb, 0, none⟩)] w fun e w' =>
      e = .returned (.string (textV L no)) ∧ RefS w' xb g (nx (textOk L no) (L.drop ((Lib.indexByte L 0).toNat + 1)) L) (!textOk L no) ∧ Touch (fun i => i = xb) w w' := by
  refine (refSText_any xb g L no w h hL).mono ?_
  rintro e w' ⟨hr, ht⟩
  rcases hr with ⟨rfl, k, hi, hk, rfl, hr⟩ | ⟨hn, rfl, hr⟩
  · have hok : textOk L false = true := by unfold textOk; rw [hi]; simp
    have hv : textV L false = strOf (L.take k) := by unfold textV; rw [hok, hi]; simp
    rw [hv, hok, hi]
    exact ⟨rfl, hr, ht⟩
  · have hok : textOk L no = false := by
      unfold textOk
      rcases hn with rfl | e
      · rfl
      · rw [e]; cases no <;> rfl
    have hv : textV L no = ⟨#[]⟩ := by unfold textV; rw [hok]; rfl
    rw [hv, hok]
    exact ⟨rfl, hr, ht⟩
end Go.Proofs.YtacnmdlefonjmaaGreat

/-
  The document's scan (layer 3): Take.
-/
namespace Go.Proofs.YtacnmdlefonjmaaGreat
open Go.RowKit

theorem refSTake_no (xb g : Nat) (L : List UInt8) (no : Bool) (n : Int) (w : World) (h : RefS w xb g L no) (hn : no = true ∨ n < 0 ∨ (L.length : Int) < n) :
    Calls Tryz.prog 95 #[.pointer (some ⟨xb, 0, none⟩), .int .i64 n] w fun e w' =>
      e = .returned (.slice none 0 0) ∧ RefS w' xb g L true ∧ Touch (fun i => i = xb) w w' := by
  obtain ⟨p, c, hb, h1, h2, h3, h4, h5, h6⟩ := h
  have hc := hb.cell
  have hf := hb.frozen 1
  have hT : Touch (fun i => i = xb) w (w.setCell ⟨xb, 1, none⟩ (.bool true)) := (Touch.refl (fun i => i = xb) w).setCell (x := ⟨xb, 1, none⟩) (fun _ => rfl) _
  have Hend : Hid (RefS (w.setCell ⟨xb, 1, none⟩ (.bool true)) xb g L true ∧ Touch (fun i => i = xb) w (w.setCell ⟨xb, 1, none⟩ (.bool true))) := Lib.hid ⟨⟨p, c, by have := hb.set_ 1 (.bool true); simpa using this, h1, h2, hT.bytesIn h3 (fun hne x hx e => h5 hne (by rw [← h4 x hx]; exact e)), h4, h5, h6⟩, hT⟩
  have hbb : no = true ∨ (no = false ∧ n < 0) ∨ (no = false ∧ ¬ n < 0 ∧ (L.length : Int) < n) := by
    cases no <;> by_cases q : n < 0 <;> simp_all
  clear hb h3 h4 h5 h6 hT hn
  rcases hbb with rfl | ⟨rfl, hn⟩ | ⟨rfl, hn, hn2⟩
  all_goals
    go_enter Tryz.func95, Tryz.ntmps95
    go_wp2
    go_ret
    exact ⟨rfl, Hend.out⟩

theorem refSTake_close {B xb : Nat} {w w1 : World} {u vo : Value} {T : List UInt8} (hxl : xb < w.heap.size) (ho : OwnB B w1 vo T) (hn : ∀ k, vo.ownBlock = some k → w.heap.size ≤ k) (hT : Touch (fun _ => False) w w1)
    (ht : Touch (fun i => i = xb) w1 (w1.setCell ⟨xb, 0, none⟩ u)) : OwnB B (w1.setCell ⟨xb, 0, none⟩ u) vo T ∧ Touch (fun i => i = xb) w (w1.setCell ⟨xb, 0, none⟩ u) :=
  ⟨ho.touch ht (fun k hk e => by have := hn k hk; omega), (hT.mono (q := fun i => i = xb) (fun _ _ e => e.elim)).trans ht⟩

theorem refSTake_yes (B xb g : Nat) (L : List UInt8) (n : Nat) (w : World) (h : RefS w xb g L false) (hn : n ≤ L.length) (hL : L.length ≤ 1000000000) (hB : B ≤ w.heap.size) :
    Calls Tryz.prog 95 #[.pointer (some ⟨xb, 0, none⟩), .int .i64 (n : Int)] w fun e w' =>
      ∃ v, e = .returned v ∧ OwnB B w' v (L.take n) ∧ RefS w' xb g (L.drop n) false ∧ Touch (fun i => i = xb) w w' := by
  obtain ⟨p, c, hC⟩ := h
  have HC : Hid (RefC w xb g L false p c) := Lib.hid hC
  obtain ⟨hb, h1, h2, h3, h4, h5, h6⟩ := hC
  have hc := hb.cell
  have hxl := hb.lt
  have Htk := Lib.hid (show (L.take n).length = n by rw [List.length_take]; omega)
  have Hint := Lib.hid (h3.take n)
  have hn0 : ¬ (n : Int) < 0 := by omega
  have hn1 : ¬ (L.length : Int) < (n : Int) := by omega
  have h2' := h2
  unfold maxLen at h2'
  by_cases hcn : n = c
  · subst hcn
    clear hb h3 h4 h5 h6 h2
    go_enter Tryz.func95, Tryz.ntmps95
    go_wp2_with (at_builtin; refine step_appendB' _ rfl (.const (.slice none 0 0)) (.tmp 31) rfl B (.slice none 0 0) [] rfl (OwnB.none _ _) p (L.take n) n n Htk.out rfl Hint.out (by rw [Htk.out]; simp; omega) hB ?_; intro vo w1 ho1 hg1 hn1; have hT1 : Touch (fun _ => False) w w1 := (Touch.of_grown hg1).mono (fun k _ e => by simp [Value.ownBlock] at e); have HC1 := Lib.hid (HC.out.touch hT1 (fun e => e) (fun _ e => e)); have hc1 := HC1.out.1.cell; have hf1 := HC1.out.1.frozen 0; have Hn1 : Hid (∀ k, vo.ownBlock = some k → w.heap.size ≤ k) := Lib.hid (fun k hk => by rcases hn1 k hk with e | e; (· simp [Value.ownBlock] at e); (· exact e)); have HT1 := Lib.hid hT1; have Ho1 : Hid (OwnB B w1 vo (L.take n)) := Lib.hid ho1; clear ho1 hg1 hn1 hT1 hc)
    go_ret
    obtain ⟨k1, k2⟩ := HC1.out.cut_eq
    obtain ⟨k3, k4⟩ := refSTake_close hxl Ho1.out Hn1.out HT1.out k2
    exact ⟨_, rfl, k3, k1, k4⟩
  · have hcn2 : ¬ c = n := fun e => hcn e.symm
    cases p with
    | none => exact absurd (h6 rfl) (by omega)
    | some a =>
      clear hb h3 h4 h5 h6 h2 hcn
      go_enter Tryz.func95, Tryz.ntmps95
      go_wp2_with (at_builtin; refine step_appendB' _ rfl (.const (.slice none 0 0)) (.tmp 31) rfl B (.slice none 0 0) [] rfl (OwnB.none _ _) (some a) (L.take n) n c Htk.out rfl Hint.out (by rw [Htk.out]; simp; omega) hB ?_; intro vo w1 ho1 hg1 hn1; have hT1 : Touch (fun _ => False) w w1 := (Touch.of_grown hg1).mono (fun k _ e => by simp [Value.ownBlock] at e); have HC1 := Lib.hid (HC.out.touch hT1 (fun e => e) (fun _ e => e)); have hc1 := HC1.out.1.cell; have hf1 := HC1.out.1.frozen 0; have Hn1 : Hid (∀ k, vo.ownBlock = some k → w.heap.size ≤ k) := Lib.hid (fun k hk => by rcases hn1 k hk with e | e; (· simp [Value.ownBlock] at e); (· exact e)); have HT1 := Lib.hid hT1; have Ho1 : Hid (OwnB B w1 vo (L.take n)) := Lib.hid ho1; clear ho1 hg1 hn1 hT1 hc)
      go_ret
      obtain ⟨k1, k2⟩ := HC1.out.cut_ne n hn
      obtain ⟨k3, k4⟩ := refSTake_close hxl Ho1.out Hn1.out HT1.out k2
      exact ⟨_, rfl, k3, k1, k4⟩

end Go.Proofs.YtacnmdlefonjmaaGreat

/-
  Package scan (layer 3): Bad, Take.
-/
namespace Go.Proofs.YtacnmdlefonjmaaGreat
open Go.RowKit

theorem scanBad_any (sb g : Nat) (L : List UInt8) (bad : Bool) (w : World) (h : ScanO w sb g L bad) :
    Calls Tryz.prog 114 #[.pointer (some ⟨sb, 0, none⟩)] w fun e w' => e = .returned (.bool bad) ∧ w = w' := by
  obtain ⟨p, c, hb, _⟩ := h
  have hc := hb.cell
  clear hb
  go_enter Tryz.func114, Tryz.ntmps114
  go_wp2_with (first | (go_at_call 102; refine (scanGood_blk sb _ _ true _ hc).mono ?_; rintro e w1 ⟨rfl, rfl⟩))
  go_ret
  exact ⟨ret_bool (by simp), rfl⟩

theorem scanTake_no (sb g : Nat) (L : List UInt8) (bad : Bool) (n : Int) (w : World) (h : ScanO w sb g L bad) (hn : bad = true ∨ n < 0 ∨ (L.length : Int) < n) :
    Calls Tryz.prog 115 #[.pointer (some ⟨sb, 0, none⟩), .int .i64 n] w fun e w' =>
      ∃ v, e = .returned v ∧ OwnB w.heap.size w' v [] ∧ ScanO w' sb g [] true ∧ Touch (fun i => i = sb) w w' := by
  have H := Lib.hid h
  have Hn := Lib.hid hn
  clear h hn
  go_enter Tryz.func115, Tryz.ntmps115
  go_wp2_with fail
  refine (scanCut_no sb g L bad n w H.out Hn.out).mono ?_
  rintro e w1 ⟨rfl, h1, ht1⟩
  have H1 := Lib.hid h1
  have Ht1 := Lib.hid ht1
  clear h1 ht1
  go_wp2_with fail
  refine (clone_any none [] 0 w1 (by simp) (BytesIn.nil _ _)).mono ?_
  rintro e w2 ⟨v, rfl, ho, hb2⟩
  have H2 := Lib.hid (H1.out.touch (Touch.of_below (p := fun _ => False) hb2) (fun e => e) (fun _ e => e))
  have Ht2 := Lib.hid (Ht1.out.then (Touch.of_below (p := fun _ => False) hb2) (fun _ _ e => e.elim))
  have Ho := Lib.hid (OwnB.base ho Ht1.out.size)
  clear ho hb2
  go_wp2
  go_ret
  exact ⟨_, rfl, Ho.out, H2.out, Ht2.out⟩

theorem scanTake_yes (sb g : Nat) (L : List UInt8) (n : Nat) (w : World) (h : ScanO w sb g L false) (hn : n ≤ L.length) (hL : L.length ≤ 1000000000) :
    Calls Tryz.prog 115 #[.pointer (some ⟨sb, 0, none⟩), .int .i64 (n : Int)] w fun e w' =>
      ∃ v, e = .returned v ∧ OwnB w.heap.size w' v (L.take n) ∧ ScanO w' sb g (L.drop n) false ∧ Touch (fun i => i = sb) w w' := by
  have H := Lib.hid h
  have Htk := Lib.hid (show (L.take n).length = n by rw [List.length_take]; omega)
  clear h
  go_enter Tryz.func115, Tryz.ntmps115
  go_wp2_with fail
  refine (scanCut_yes sb g L n w H.out hn).mono ?_
  rintro e w1 ⟨p, rfl, hin, hg, h1, ht1⟩
  have H1 := Lib.hid h1
  have Ht1 := Lib.hid ht1
  have Hin := Lib.hid hin
  have hlt : L.drop n ≠ [] → g < w1.heap.size := h1.ltg
  have Hlt := Lib.hid hlt
  clear h1 ht1 hin hg hlt
  go_wp2_with fail
  have hcl := clone_any p (L.take n) n w1 (by rw [Htk.out]; omega) Hin.out
  rw [Htk.out] at hcl
  refine hcl.mono ?_
  rintro e w2 ⟨v, rfl, ho, hb2⟩
  have H2 := Lib.hid (H1.out.touch (Touch.of_below (p := fun _ => False) hb2) (fun e => e) (fun _ e => e))
  have Ht2 := Lib.hid (Ht1.out.then (Touch.of_below (p := fun _ => False) hb2) (fun _ _ e => e.elim))
  have Ho := Lib.hid (OwnB.base ho Ht1.out.size)
  clear ho hb2 hcl
  go_wp2
  go_ret
  exact ⟨_, rfl, Ho.out, H2.out, Ht2.out⟩

end Go.Proofs.YtacnmdlefonjmaaGreat

/-
  Both scans side by side (layer 3): Take.
-/
namespace Go.Proofs.YtacnmdlefonjmaaGreat
open Go.RowKit

theorem scanTake_any (sb g : Nat) (L : List UInt8) (bad : Bool) (n : Int) (w : World) (h : ScanO w sb g L bad) (hL : L.length ≤ 1000000000) :
    Calls Tryz.prog 115 #[.pointer (some ⟨sb, 0, none⟩), .int .i64 n] w fun e w' =>
      ∃ v, e = .returned v ∧ OwnB w.heap.size w' v (takeV L bad n) ∧ ScanO w' sb g (nx (takeOk L bad n) (L.drop n.toNat) []) (!takeOk L bad n) ∧ Touch (fun i => i = sb) w w' := by
  by_cases hok : takeOk L bad n = true
  · have hv : takeV L bad n = L.take n.toNat := by unfold takeV; rw [if_pos hok]
    rw [hv, hok]
    unfold takeOk at hok
    simp only [Bool.and_eq_true, Bool.not_eq_true', decide_eq_true_eq] at hok
    obtain ⟨⟨rfl, hs⟩, hl⟩ := hok
    obtain ⟨m, rfl⟩ := Int.eq_ofNat_of_zero_le hs
    exact scanTake_yes sb g L m w h (by omega) hL
  · have hok' : takeOk L bad n = false := by simpa using hok
    have hv : takeV L bad n = [] := by unfold takeV; rw [if_neg hok]
    rw [hv, hok']
    unfold takeOk at hok'
    refine scanTake_no sb g L bad n w h ?_
    cases bad
    · simp at hok'
      exact .inr (by omega)
    · exact .inl rfl

theorem refSTake_any (xb g : Nat) (L : List UInt8) (no : Bool) (n : Int) (w : World) (h : RefS w xb g L no) (hL : L.length ≤ 1000000000) :
    Calls Tryz.prog 95 #[.pointer (some ⟨xb, 0, none⟩), .int .i64 n] w fun e w' =>
      ∃ v, e = .returned v ∧ OwnB w.heap.size w' v (takeV L no n) ∧ RefS w' xb g (nx (takeOk L no n) (L.drop n.toNat) L) (!takeOk L no n) ∧ Touch (fun i => i = xb) w w' := by
  by_cases hok : takeOk L no n = true
  · have hv : takeV L no n = L.take n.toNat := by unfold takeV; rw [if_pos hok]
    rw [hv, hok]
    unfold takeOk at hok
    simp only [Bool.and_eq_true, Bool.not_eq_true', decide_eq_true_eq] at hok
    obtain ⟨⟨rfl, hs⟩, hl⟩ := hok
    obtain ⟨m, rfl⟩ := Int.eq_ofNat_of_zero_le hs
    exact refSTake_yes w.heap.size xb g L m w h (by omega) hL (Nat.le_refl _)
  · have hok' : takeOk L no n = false := by simpa using hok
    have hv : takeV L no n = [] := by unfold takeV; rw [if_neg hok]
    rw [hv, hok']
    unfold takeOk at hok'
    refine (refSTake_no xb g L no n w h ?_).mono ?_
    · cases no
      · simp at hok'
        exact .inr (by omega)
      · exact .inl rfl
    · rintro e w' ⟨rfl, hr, ht⟩
      exact ⟨_, rfl, OwnB.none _ _, hr, ht⟩

end Go.Proofs.YtacnmdlefonjmaaGreat

/-
  Messages of clients (layer 6): what a body says, as a plain law.
-/
namespace Go.Proofs.YtacnmdlefonjmaaGreat
open Go.RowKit
set_option linter.unusedVariables false
set_option linter.unusedSimpArgs false

/-- What is left behind a step; none where it can't be had. -/
def numP (z : Nat) (L : List UInt8) : Option (Int × List UInt8) := if numOk L false z = true then some (numV L false z, L.drop z) else none
def textQ (L : List UInt8) : Option (ByteArray × List UInt8) := if textOk L false = true then some (textV L false, L.drop ((Lib.indexByte L 0).toNat + 1)) else none
def takeP (n : Int) (L : List UInt8) : Option (List UInt8 × List UInt8) := if takeOk L false n = true then some (takeV L false n, L.drop n.toNat) else none
/-- So many numbers. -/
def numsP (z : Nat) : Nat → List UInt8 → Option (List Int × List UInt8)
  | 0, L => some ([], L)
  | n + 1, L => (numP z L).bind fun a => (numsP z n a.2).bind fun b => some (a.1 :: b.1, b.2)
def listQ (z : Nat) (L : List UInt8) : Option (List Int × List UInt8) := (numP 2 L).bind fun a => numsP z a.1.toNat a.2
/-- A value. -/
def cellP (L : List UInt8) : Option (CeV × List UInt8) := (numP 4 L).bind fun a => if a.1 = 4294967295 then some (⟨true, []⟩, a.2) else (takeP a.1 a.2).bind fun b => some (⟨false, b.1⟩, b.2)
def cellsP : Nat → List UInt8 → Option (List CeV × List UInt8)
  | 0, L => some ([], L)
  | n + 1, L => (cellP L).bind fun a => (cellsP n a.2).bind fun b => some (a.1 :: b.1, b.2)
def rowQ (L : List UInt8) : Option (List CeV × List UInt8) := (numP 2 L).bind fun a => cellsP a.1.toNat a.2

/-- A step over a scan: what it answers where all goes well; where it is bad nothing is said. -/
def StepO {α : Type} (L : List UInt8) (bad : Bool) (P : List UInt8 → Option (α × List UInt8)) (x : α) (L' : List UInt8) (bad' : Bool) : Prop :=
  (bad' = false → bad = false ∧ P L = some (x, L')) ∧ (bad' = true → bad = true ∨ P L = none) ∧ L'.length ≤ L.length

end Go.Proofs.YtacnmdlefonjmaaGreat

/-
  Messages of clients (layer 6): numbers that are read: the program's and the document's.
-/
namespace Go.Proofs.YtacnmdlefonjmaaGreat
open Go.RowKit
set_option linter.unusedVariables false
set_option linter.unusedSimpArgs false

theorem RefS.cellsF {w : World} {xb g : Nat} {L : List UInt8} {no : Bool} (h : RefS w xb g L no) : ∃ p c, ∀ i, w.cell? ⟨xb, i, none⟩ = (#[.slice p L.length c, .bool no] : Array Value)[i]? := by
  obtain ⟨p, c, hb, _⟩ := h
  exact ⟨p, c, hb.cell⟩
theorem RefS.ltgF {w : World} {xb g : Nat} {L : List UInt8} {no : Bool} (h : RefS w xb g L no) (hL : L ≠ []) : g < w.heap.size := by
  obtain ⟨p, c, hb, h1, h2, h3, h4, _⟩ := h
  obtain ⟨b, o, e, hc⟩ := h3 0 (List.length_pos_iff.2 hL)
  have := h4 _ e
  rw [← this]
  exact World.block_lt_of_cell? w _ hc
abbrev OwnI (B : Nat) (w : World) (v : Value) (xs : List Int) : Prop := OwnS B 3 1 IntU (fun k => B ≤ k) w v xs
theorem Tryz.info3 : (Tryz.prog.info? 3).map (fun i => (i.zero, i.size, i.bytes)) = some (some (.int .i64 0), 1, 8) := by kernel_rfl
theorem info_int : ∃ i z, Tryz.prog.info? 3 = some i ∧ i.zero = some z ∧ i.size = 1 ∧ i.bytes = 8 ∧ z.cells.size = 1 := by
  obtain ⟨i0, hi, hz0, hz1, hz2⟩ := info_parts Tryz.info3
  exact ⟨i0, _, hi, hz0, hz1, hz2, rfl⟩

/-- A number behind numbers. -/
theorem step_appendI {ops : Array Oper} {rest : List Oper} {o : Oper} {a : Act} {Q : Exit → Act → World → Prop} (w : World) (hgd : o.guard = none) (s y : Operand)
    (ho : o.op = .call { callee := .builtin .append, args := #[s, y], argTypes := #[43, 43] })
    (B : Nat) (v : Value) (xs : List Int) (hsv : a.eval s = v) (hown : OwnI B w v xs) (p : Option Addr) (n c : Nat) (ys : List Int) (hx : a.eval y = .slice p n c) (hs : SliceS 1 IntU (fun k => B ≤ k ∧ rowOf v ≠ some k) w [.slice p n c] ys)
    (hroom : xs.length + ys.length ≤ 1000000) (hbase : B ≤ w.heap.size)
    (h : ∀ v' w', OwnI B w' v' (xs ++ ys) → w.grownBy w' (rowOf v) → (∀ k, rowOf v' = some k → rowOf v = some k ∨ w.heap.size ≤ k) → wpList Tryz.prog ops Q rest (a.put o.dst v') w') : wpList Tryz.prog ops Q (o :: rest) a w :=
  wpList_append_S w hgd s y 43 43 ho B 3 3 1 8 Tryz.underlying43 Tryz.underlying43 info_int IntU IntU.still IntU.one (fun k => B ≤ k) v xs hsv hown p n c ys hx hs
    (by omega) (by simp only [maxLen]; omega) hbase h

theorem numP2 (L : List UInt8) : numP 2 L = if numOk L false 2 = true then some (numV L false 2, L.drop 2) else none := rfl

/-- What holds in the loop. -/
structure NmI (zn : Nat) (R : Option (List Int × List UInt8)) (l1 : Nat) (bad1 : Bool) (m : Nat) (T : List UInt8) (b : Bool) (xs : List Int) : Prop where
  good : b = false → bad1 = false ∧ R = (numsP zn m T).map (fun q => (xs ++ q.1, q.2))
  bad : b = true → bad1 = true ∨ R = none
  len : T.length + xs.length ≤ l1 + (if b = true then 1 else 0)
theorem NmI.step {zn : Nat} {R : Option (List Int × List UInt8)} {l1 : Nat} {bad1 : Bool} {m : Nat} {T T' : List UInt8} {xs : List Int} (h : NmI zn R l1 bad1 (m + 1) T false xs) (hz : 0 < zn)
    (hT1 : numOk T false zn = true → T' = T.drop zn) (hT2 : T'.length ≤ T.length) : NmI zn R l1 bad1 m T' (!numOk T false zn) (xs ++ [numV T false zn]) := by
  obtain ⟨h1, h2⟩ := h.good rfl
  have hl := h.len
  simp only [Bool.false_eq_true, if_false, Nat.add_zero] at hl
  cases hok : numOk T false zn with
  | true =>
    have hd := hT1 hok
    subst hd
    refine ⟨fun _ => ⟨h1, ?_⟩, (fun e => by cases e), ?_⟩
    · rw [h2, numsP, numP, if_pos hok]
      simp only [Option.bind_some]
      cases numsP zn m (T.drop zn) with
      | none => rfl
      | some q => simp
    · have : zn ≤ T.length := by unfold numOk at hok; simp at hok; omega
      simp
      omega
  | false =>
    refine ⟨(fun e => by cases e), fun _ => .inr ?_, ?_⟩
    · rw [h2, numsP, numP, if_neg (by rw [hok]; decide)]
      rfl
    · simp
      omega
theorem NmI.fin {zn : Nat} {L L1 : List UInt8} {bad : Bool} {l1 : Nat} {n : Nat} {m : Nat} {T : List UInt8} {b : Bool} {xs : List Int}
    (h : NmI zn (numsP zn n L1) l1 (!numOk L bad 2) m T b xs) (hn : numV L bad 2 = n) (hL1 : numOk L bad 2 = true → L1 = L.drop 2) (hm : m = 0 ∨ b = true) (hT : T.length ≤ L.length) : StepO L bad (listQ zn) xs T b := by
  refine ⟨fun hb => ?_, fun hb => ?_, hT⟩
  · subst hb
    obtain ⟨h1, h2⟩ := h.good rfl
    have hok : numOk L bad 2 = true := by simpa using h1
    have hbf : bad = false := by unfold numOk at hok; simp at hok; exact hok.1.1
    subst hbf
    rcases hm with rfl | hb
    · refine ⟨rfl, ?_⟩
      unfold listQ
      rw [numP2, if_pos hok]
      simp only [Option.bind_some]
      rw [hn, Int.toNat_natCast, ← hL1 hok, h2]
      simp [numsP]
    · cases hb
  · rcases h.bad hb with h1 | h1
    · cases bad with
      | true => exact .inl rfl
      | false =>
        right
        have hok : numOk L false 2 = false := by simpa using h1
        unfold listQ
        rw [numP2, if_neg (by rw [hok]; decide)]
        rfl
    · cases bad with
      | true => exact .inl rfl
      | false =>
        right
        unfold listQ
        rw [numP2]
        by_cases hok : numOk L false 2 = true
        · rw [if_pos hok]
          simp only [Option.bind_some]
          rw [hn, Int.toNat_natCast, ← hL1 hok]
          exact h1
        · rw [if_neg hok]
          rfl

/-- What is read of numbers. -/
def flistR (sb g : Nat) (L : List UInt8) (bad : Bool) (zn : Nat) (w : World) (e : Ending) (w' : World) : Prop :=
  ∃ v xs L' bad', e = .returned v ∧ OwnI w.heap.size w' v xs ∧ ScanO w' sb g L' bad' ∧ StepO L bad (listQ zn) xs L' bad' ∧ Touch (fun i => i = sb) w w'

set_option maxRecDepth 100000 in
set_option maxHeartbeats 4000000 in
theorem flist_any (sb g : Nat) (L : List UInt8) (bad : Bool) (z : Int) (zn : Nat) (hz : (zn : Int) = z) (hzn : 0 < zn) (w : World) (h : ScanO w sb g L bad) (hL : L.length ≤ 100000) :
    Calls Tryz.prog 99 #[.agg #[.pointer (some ⟨sb, 0, none⟩)], .int .i64 z] w (flistR sb g L bad zn w) := by
  subst hz
  have hsb := h.lt
  have Hg := Lib.hid (fun e : L ≠ [] => h.ltg e)
  have hal : Below w.heap.size w (w.alloc (.cells #[.pointer (some ⟨sb, 0, none⟩)] 140)) := (Below.refl _ _).alloc (Nat.le_refl _) _
  have HA := Lib.hid hal
  have H0 := Lib.hid (h.touch (Touch.of_below (p := fun _ => False) hal) (fun e => e) (fun _ e => e))
  have Hk := Lib.hid (Blk.new w 140 #[.pointer (some ⟨sb, 0, none⟩)])
  have hz1 : w.heap.size ≤ (w.alloc (.cells #[.pointer (some ⟨sb, 0, none⟩)] 140)).heap.size := by simp
  have hk1 := Hk.out.lt
  clear h hal
  go_enter Tryz.func99, Tryz.ntmps99
  go_upto_region 1 with (fail)
  generalize w.alloc (.cells #[.pointer (some ⟨sb, 0, none⟩)] 140) = w1 at *
  have hc1 := Hk.out.cell
  have Hn := Lib.hid (scanNum_any sb g L bad 2 w1 H0.out)
  obtain ⟨nn, hnn⟩ : ∃ nn : Nat, numV L bad 2 = (nn : Int) ∧ nn ≤ 65536 := by
    unfold numV
    split
    · have hb := be_bd (L.take (2 : Int).toNat)
      have hl : (L.take (2 : Int).toNat).length ≤ 2 := by rw [List.length_take]; exact Nat.min_le_left _ _
      obtain ⟨q, hq⟩ := Int.eq_ofNat_of_zero_le hb.1
      have h2 : be (L.take (2 : Int).toNat) < 65536 := by
        have h3 : (256 : Int) ^ (L.take (2 : Int).toNat).length ≤ 65536 := by
          generalize (L.take (2 : Int).toNat).length = q at hl
          have : q = 0 ∨ q = 1 ∨ q = 2 := by omega
          rcases this with rfl | rfl | rfl <;> decide
        omega
      exact ⟨q, hq, by omega⟩
    · exact ⟨0, rfl, by omega⟩
  obtain ⟨hnn, hnb⟩ := hnn
  rw [hnn] at Hn
  have HNN := Lib.hid hnn
  obtain ⟨L1, hL1⟩ : ∃ L1, nx (numOk L bad 2) (L.drop (2 : Int).toNat) [] = L1 := ⟨_, rfl⟩
  rw [hL1] at Hn
  have HL1 : Hid ((numOk L bad 2 = true → L1 = L.drop 2) ∧ L1.length ≤ L.length ∧ (L1 ≠ [] → L ≠ [])) := Lib.hid (by
    rw [← hL1]
    refine ⟨fun e => by rw [e]; rfl, ?_, ?_⟩
    · unfold nx; split <;> simp
    · intro hne e
      subst e
      apply hne
      unfold nx
      split <;> simp)
  clear hnn hL1
  go_wp2_with fail
  refine Hn.out.mono ?_
  rintro e w2 ⟨rfl, hs2, hT2⟩
  have hz2 := hT2.size
  have HS2 := Lib.hid hs2
  have HT2 := Lib.hid hT2
  clear hs2 Hn
  have Hk2 := Lib.hid (hT2.blk Hk.out (by omega))
  clear hT2 hc1
  go_wp2_with fail
  go_loopw [5, 6] (fun v i wr => ∃ (m : Nat) (T : List UInt8) (b : Bool) (xs : List Int), m ≤ 65536 ∧ i = .int .i64 (m : Int) ∧ NmI zn (numsP zn nn L1) L1.length (!numOk L bad 2) m T b xs ∧ (T ≠ [] → L ≠ []) ∧ T.length ≤ L1.length ∧ OwnI w1.heap.size wr v xs ∧ ScanO wr sb g T b ∧ Touch (fun i => i = sb) w1 wr ∧ Blk wr w.heap.size 140 #[.pointer (some ⟨sb, 0, none⟩)]) (fun _ i _ => (intOf i).toNat)
  case atStart => exact ⟨nn, L1, !numOk L bad 2, [], hnb, rfl, ⟨fun e => ⟨e, by cases numsP zn nn L1 <;> simp⟩, fun e => .inl e, by simp⟩, HL1.out.2.2, Nat.le_refl _, OwnS.empty _, HS2.out, HT2.out, Hk2.out⟩
  case round =>
    obtain ⟨m, T, b, xs, hm6, rfl, hI, hTL, hTl, ho, hs, hT, hk⟩ := hrel
    have hzr := hT.size
    have HI := Lib.hid hI
    have HTL := Lib.hid hTL
    have Ho := Lib.hid ho
    have HS := Lib.hid hs
    have HT := Lib.hid hT
    have Hrow := Lib.hid ho.row
    have hxl := hI.len
    have hxl2 : xs.length ≤ 100002 := by have := HL1.out.2.1; split at hxl <;> omega
    have Hfin := Lib.hid (fun hm : m = 0 ∨ b = true => hI.fin HNN.out HL1.out.1 hm (by have := HL1.out.2.1; omega))
    have Hkr := Lib.hid hk
    have hcr := hk.cell
    clear hI hTL ho hs hT hxl hk
    cases m with
    | zero =>
      have Hst := Lib.hid (Hfin.out (.inl rfl))
      go_wp2_with fail
      go_ret
      exact ⟨_, xs, T, b, rfl, Ho.out.base hz1, HS.out, Hst.out, (Touch.of_below (p := fun i => i = sb) HA.out).trans HT.out⟩
    | succ m =>
      obtain ⟨mi, hmi⟩ : ∃ mi : Int, ((m + 1 : Nat) : Int) = mi := ⟨_, rfl⟩
      rw [hmi]
      have hpos : 0 < mi := by omega
      have hwm : IntKind.i64.wrap (mi - 1) = (m : Int) := by rw [IntKind.wrap_i64]; omega
      have Hmi := Lib.hid hmi
      clear hmi
      have HBd := Lib.hid (scanBad_any sb g T b wr HS.out)
      cases b with
      | true =>
        have Hst := Lib.hid (Hfin.out (.inr rfl))
        go_wp2_with fail
        refine HBd.out.mono ?_
        rintro e w3 ⟨rfl, rfl⟩
        go_wp2_with fail
        go_ret
        exact ⟨_, xs, T, true, rfl, Ho.out.base hz1, HS.out, Hst.out, (Touch.of_below (p := fun i => i = sb) HA.out).trans HT.out⟩
      | false =>
        go_wp2_with fail
        refine HBd.out.mono ?_
        rintro e w3 ⟨rfl, rfl⟩
        have HN := Lib.hid (scanNum_any sb g T false (zn : Int) wr HS.out)
        go_wp2_with fail
        refine HN.out.mono ?_
        rintro e w4 ⟨rfl, hs4, hT4⟩
        have hz4 := hT4.size
        rw [Int.toNat_natCast] at hs4
        obtain ⟨T', hT'⟩ : ∃ T', nx (numOk T false (zn : Int)) (T.drop zn) [] = T' := ⟨_, rfl⟩
        rw [hT'] at hs4
        have hTp : (numOk T false (zn : Int) = true → T' = T.drop zn) ∧ T'.length ≤ T.length ∧ (T' ≠ [] → T ≠ []) := by
          rw [← hT']
          refine ⟨fun e => by rw [e]; rfl, ?_, ?_⟩
          · unfold nx; split <;> simp
          · intro hne e
            subst e
            apply hne
            unfold nx
            split <;> simp
        have HI4 := Lib.hid (HI.out.step hzn hTp.1 hTp.2.1)
        have HTL4 : Hid (T' ≠ [] → L ≠ []) := Lib.hid (fun e => HTL.out (hTp.2.2 e))
        have hTl4 : T'.length ≤ L1.length := by have := hTp.2.1; omega
        obtain ⟨bv, hbv⟩ : ∃ bv, (!numOk T false (zn : Int)) = bv := ⟨_, rfl⟩
        obtain ⟨xv, hxv⟩ : ∃ xv, numV T false (zn : Int) = xv := ⟨_, rfl⟩
        rw [hbv] at hs4 HI4
        rw [hxv] at HI4
        rw [hxv]
        have Ho4 := Ho.out.touch (S' := fun k => w1.heap.size ≤ k) IntU.still hT4 (fun k hk => by have := (Hrow.out k hk).1; omega) (fun k _ hk _ => ⟨hk, fun e => by omega⟩)
        have hal : Below w4.heap.size w4 (w4.alloc (.cells #[.int .i64 xv] 3)) := (Below.refl _ _).alloc (Nat.le_refl _) _
        have Ho5 := Lib.hid (Ho4.below' IntU.still hal)
        have Hnw := Lib.hid (SliceS.new1 (S := fun k => w1.heap.size ≤ k ∧ rowOf u5 ≠ some k) (S' := fun k => w1.heap.size ≤ k ∧ rowOf u5 ≠ some k) IntU.still w4 3 #[.int .i64 xv] xv rfl rfl (fun k _ h => h) ⟨by omega, fun e => by have := (Hrow.out _ e).2; omega⟩)
        have HAl := Lib.hid hal
        have HS4 := Lib.hid hs4
        have HT4 := Lib.hid (HT.out.trans hT4)
        have hwz : w1.heap.size ≤ (w4.alloc (.cells #[.int .i64 xv] 3)).heap.size := by rw [World.size_alloc]; omega
        have hxr : xs.length + 1 ≤ 1000000 := by omega
        have Hk4 := Lib.hid (hT4.blk Hkr.out (by omega))
        clear hs4 hT4 hal hT' hbv hxv Ho4 hTp hcr
        go_wp2_with (at_builtin; refine step_appendI _ rfl (.tmp 20) (.tmp 25) rfl w1.heap.size u5 xs rfl Ho5.out (some ⟨w4.heap.size, 0, none⟩) 1 1 [xv] rfl Hnw.out (by simpa using hxr) hwz ?_; intro v5 w5 ho5 hg5 hn5; have Ho6 := Lib.hid ho5; have HT6 := Lib.hid ((HT4.out.trans (Touch.of_below HAl.out)).then (Touch.of_row hg5) (fun i hi e => by have := (Hrow.out i e.symm).1; omega)); have HS6 := Lib.hid ((HS4.out.touch (Touch.of_below (p := fun _ => False) HAl.out) (fun e => e) (fun _ e => e)).touch (Touch.of_row hg5) (fun e => by have := (Hrow.out _ e.symm).1; omega) (fun hne e => by have := (Hrow.out _ e.symm).1; have := Hg.out (HTL4.out hne); omega)); have Hk6 := Lib.hid ((Hk4.out.alloc _).grown hg5 (fun e => by have := (Hrow.out _ e.symm).1; omega)); clear ho5 hg5 hn5)
        go_roundw
        case rel => exact ⟨m, T', bv, xs ++ [xv], by omega, by first | rfl | trivial, HI4.out, HTL4.out, hTl4, Ho6.out, HS6.out, HT6.out, Hk6.out⟩
        case measure => have := Hmi.out; simp [intOf]; omega

/-- What is read of numbers. -/
def fnumsR (sb g : Nat) (L : List UInt8) (bad : Bool) (zn : Nat) (w : World) (e : Ending) (w' : World) : Prop :=
  ∃ v xs L' bad', e = .returned v ∧ OwnI w.heap.size w' v xs ∧ RefS w' sb g L' bad' ∧ StepO L bad (listQ zn) xs L' bad' ∧ Touch (fun i => i = sb) w w'

set_option maxRecDepth 100000 in
set_option maxHeartbeats 4000000 in
theorem fnums_any (sb g : Nat) (L : List UInt8) (bad : Bool) (z : Int) (zn : Nat) (hz : (zn : Int) = z) (hzn : 0 < zn) (w : World) (h : RefS w sb g L bad) (hL : L.length ≤ 100000) :
    Calls Tryz.prog 77 #[.pointer (some ⟨sb, 0, none⟩), .int .i64 z] w (fnumsR sb g L bad zn w) := by
  subst hz
  have hsb := h.lt
  have Hg := Lib.hid (fun e : L ≠ [] => h.ltgF e)
  have H0 := Lib.hid h
  have HA := Lib.hid (Below.refl w.heap.size w)
  have hz1 : w.heap.size ≤ w.heap.size := Nat.le_refl _
  clear h
  go_enter Tryz.func77, Tryz.ntmps77
  go_upto_region 1 with (fail)
  have Hn := Lib.hid (refSNum_any sb g L bad 2 w H0.out)
  obtain ⟨nn, hnn⟩ : ∃ nn : Nat, numV L bad 2 = (nn : Int) ∧ nn ≤ 65536 := by
    unfold numV
    split
    · have hb := be_bd (L.take (2 : Int).toNat)
      have hl : (L.take (2 : Int).toNat).length ≤ 2 := by rw [List.length_take]; exact Nat.min_le_left _ _
      obtain ⟨q, hq⟩ := Int.eq_ofNat_of_zero_le hb.1
      have h2 : be (L.take (2 : Int).toNat) < 65536 := by
        have h3 : (256 : Int) ^ (L.take (2 : Int).toNat).length ≤ 65536 := by
          generalize (L.take (2 : Int).toNat).length = q at hl
          have : q = 0 ∨ q = 1 ∨ q = 2 := by omega
          rcases this with rfl | rfl | rfl <;> decide
        omega
      exact ⟨q, hq, by omega⟩
    · exact ⟨0, rfl, by omega⟩
  obtain ⟨hnn, hnb⟩ := hnn
  rw [hnn] at Hn
  have HNN := Lib.hid hnn
  obtain ⟨L1, hL1⟩ : ∃ L1, nx (numOk L bad 2) (L.drop (2 : Int).toNat) L = L1 := ⟨_, rfl⟩
  rw [hL1] at Hn
  have HL1 : Hid ((numOk L bad 2 = true → L1 = L.drop 2) ∧ L1.length ≤ L.length ∧ (L1 ≠ [] → L ≠ [])) := Lib.hid (by
    rw [← hL1]
    refine ⟨fun e => by rw [e]; rfl, ?_, ?_⟩
    · unfold nx; split <;> simp
    · intro hne e
      subst e
      apply hne
      unfold nx
      split <;> simp)
  clear hnn hL1
  go_wp2_with fail
  refine Hn.out.mono ?_
  rintro e w2 ⟨rfl, hs2, hT2⟩
  have hz2 := hT2.size
  have HS2 := Lib.hid hs2
  have HT2 := Lib.hid hT2
  clear hs2 Hn
  clear hT2
  go_wp2_with fail
  go_loopw [5, 6] (fun v i wr => ∃ (m : Nat) (T : List UInt8) (b : Bool) (xs : List Int), m ≤ 65536 ∧ i = .int .i64 (m : Int) ∧ NmI zn (numsP zn nn L1) L1.length (!numOk L bad 2) m T b xs ∧ (T ≠ [] → L ≠ []) ∧ T.length ≤ L1.length ∧ OwnI w.heap.size wr v xs ∧ RefS wr sb g T b ∧ Touch (fun i => i = sb) w wr) (fun _ i _ => (intOf i).toNat)
  case atStart => exact ⟨nn, L1, !numOk L bad 2, [], hnb, rfl, ⟨fun e => ⟨e, by cases numsP zn nn L1 <;> simp⟩, fun e => .inl e, by simp⟩, HL1.out.2.2, Nat.le_refl _, OwnS.empty _, HS2.out, HT2.out⟩
  case round =>
    obtain ⟨m, T, b, xs, hm6, rfl, hI, hTL, hTl, ho, hs, hT⟩ := hrel
    have hzr := hT.size
    have HI := Lib.hid hI
    have HTL := Lib.hid hTL
    have Ho := Lib.hid ho
    have HS := Lib.hid hs
    have HT := Lib.hid hT
    have Hrow := Lib.hid ho.row
    have hxl := hI.len
    have hxl2 : xs.length ≤ 100002 := by have := HL1.out.2.1; split at hxl <;> omega
    have Hfin := Lib.hid (fun hm : m = 0 ∨ b = true => hI.fin HNN.out HL1.out.1 hm (by have := HL1.out.2.1; omega))
    obtain ⟨pq, cq, hcr⟩ := hs.cellsF
    clear hI hTL ho hs hT hxl
    cases m with
    | zero =>
      have Hst := Lib.hid (Hfin.out (.inl rfl))
      go_wp2_with fail
      go_ret
      exact ⟨_, xs, T, b, rfl, Ho.out.base hz1, HS.out, Hst.out, (Touch.of_below (p := fun i => i = sb) HA.out).trans HT.out⟩
    | succ m =>
      obtain ⟨mi, hmi⟩ : ∃ mi : Int, ((m + 1 : Nat) : Int) = mi := ⟨_, rfl⟩
      rw [hmi]
      have hpos : 0 < mi := by omega
      have hwm : IntKind.i64.wrap (mi - 1) = (m : Int) := by rw [IntKind.wrap_i64]; omega
      have Hmi := Lib.hid hmi
      clear hmi
      cases b with
      | true =>
        have Hst := Lib.hid (Hfin.out (.inr rfl))
        go_wp2_with fail
        go_ret
        exact ⟨_, xs, T, true, rfl, Ho.out.base hz1, HS.out, Hst.out, HT.out⟩
      | false =>
        have HN := Lib.hid (refSNum_any sb g T false (zn : Int) wr HS.out)
        go_wp2_with fail
        refine HN.out.mono ?_
        rintro e w4 ⟨rfl, hs4, hT4⟩
        have hz4 := hT4.size
        rw [Int.toNat_natCast] at hs4
        obtain ⟨T', hT'⟩ : ∃ T', nx (numOk T false (zn : Int)) (T.drop zn) T = T' := ⟨_, rfl⟩
        rw [hT'] at hs4
        have hTp : (numOk T false (zn : Int) = true → T' = T.drop zn) ∧ T'.length ≤ T.length ∧ (T' ≠ [] → T ≠ []) := by
          rw [← hT']
          refine ⟨fun e => by rw [e]; rfl, ?_, ?_⟩
          · unfold nx; split <;> simp
          · intro hne e
            subst e
            apply hne
            unfold nx
            split <;> simp
        have HI4 := Lib.hid (HI.out.step hzn hTp.1 hTp.2.1)
        have HTL4 : Hid (T' ≠ [] → L ≠ []) := Lib.hid (fun e => HTL.out (hTp.2.2 e))
        have hTl4 : T'.length ≤ L1.length := by have := hTp.2.1; omega
        obtain ⟨bv, hbv⟩ : ∃ bv, (!numOk T false (zn : Int)) = bv := ⟨_, rfl⟩
        obtain ⟨xv, hxv⟩ : ∃ xv, numV T false (zn : Int) = xv := ⟨_, rfl⟩
        rw [hbv] at hs4 HI4
        rw [hxv] at HI4
        rw [hxv]
        have Ho4 := Ho.out.touch (S' := fun k => w.heap.size ≤ k) IntU.still hT4 (fun k hk => by have := (Hrow.out k hk).1; omega) (fun k _ hk _ => ⟨hk, fun e => by omega⟩)
        have hal : Below w4.heap.size w4 (w4.alloc (.cells #[.int .i64 xv] 3)) := (Below.refl _ _).alloc (Nat.le_refl _) _
        have Ho5 := Lib.hid (Ho4.below' IntU.still hal)
        have Hnw := Lib.hid (SliceS.new1 (S := fun k => w.heap.size ≤ k ∧ rowOf u5 ≠ some k) (S' := fun k => w.heap.size ≤ k ∧ rowOf u5 ≠ some k) IntU.still w4 3 #[.int .i64 xv] xv rfl rfl (fun k _ h => h) ⟨by omega, fun e => by have := (Hrow.out _ e).2; omega⟩)
        have HAl := Lib.hid hal
        have HS4 := Lib.hid hs4
        have HT4 := Lib.hid (HT.out.trans hT4)
        have hwz : w.heap.size ≤ (w4.alloc (.cells #[.int .i64 xv] 3)).heap.size := by rw [World.size_alloc]; omega
        have hxr : xs.length + 1 ≤ 1000000 := by omega
        clear hs4 hT4 hal hT' hbv hxv Ho4 hTp hcr
        go_wp2_with (at_builtin; refine step_appendI _ rfl (.tmp 20) (.tmp 24) rfl w.heap.size u5 xs rfl Ho5.out (some ⟨w4.heap.size, 0, none⟩) 1 1 [xv] rfl Hnw.out (by simpa using hxr) hwz ?_; intro v5 w5 ho5 hg5 hn5; have Ho6 := Lib.hid ho5; have HT6 := Lib.hid ((HT4.out.trans (Touch.of_below HAl.out)).then (Touch.of_row hg5) (fun i hi e => by have := (Hrow.out i e.symm).1; omega)); have HS6 := Lib.hid ((HS4.out.touch (Touch.of_below (p := fun _ => False) HAl.out) (fun e => e) (fun _ e => e)).touch (Touch.of_row hg5) (fun e => by have := (Hrow.out _ e.symm).1; omega) (fun hne e => by have := (Hrow.out _ e.symm).1; have := Hg.out (HTL4.out hne); omega)); clear ho5 hg5 hn5)
        go_roundw
        case rel => exact ⟨m, T', bv, xs ++ [xv], by omega, by first | rfl | trivial, HI4.out, HTL4.out, hTl4, Ho6.out, HS6.out, HT6.out⟩
        case measure => have := Hmi.out; simp [intOf]; omega

end Go.Proofs.YtacnmdlefonjmaaGreat

