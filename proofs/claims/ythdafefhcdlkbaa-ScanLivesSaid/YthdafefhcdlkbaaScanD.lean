/-
  Scans that no call made, the ordinary scan of the statements, and ScanNobody (layer 3).
-/
import Derived.Test.YthdafefhcdlkbaaScanC
namespace Go.Proofs.Ythdafefhcdlkbaa
open Go.RowKit

theorem scanNum_nil (n : Int) (w : World) :
    Calls Try.prog 30 #[.pointer none, .int .i64 n] w fun e w' => e = .returned (.int .i64 0) ∧ w = w' := by
  by_cases hr : rightB 0 n = true
  · have Hr := Lib.hid hr
    clear hr
    go_enter Try.func30, Try.ntmps30
    go_wp2_with (first
      | (go_at_call 51; refine (right_any _ _ _).mono ?_; rintro e w1 ⟨rfl, rfl⟩; rw [Hr.out])
      | (go_at_call 53; refine (scanCut_none n _).mono ?_; rintro e w1 ⟨rfl, rfl⟩))
    go_ret
    exact ⟨rfl, rfl⟩
  · have Hr := Lib.hid (show rightB 0 n = false by simpa using hr)
    clear hr
    go_enter Try.func30, Try.ntmps30
    go_wp2_with (first
      | (go_at_call 51; refine (right_any _ _ _).mono ?_; rintro e w1 ⟨rfl, rfl⟩; rw [Hr.out])
      | (go_at_call 52; refine (scanFail_nil _).mono ?_; rintro e w1 ⟨rfl, rfl⟩))
    go_ret
    exact ⟨rfl, rfl⟩

theorem scanNum_zero (sb : Nat) (v : Value) (bad : Bool) (n : Int) (w : World) (h : Blk w sb 54 #[v, .bool bad, .bool false]) :
    Calls Try.prog 30 #[.pointer (some ⟨sb, 0, none⟩), .int .i64 n] w fun e w' =>
      e = .returned (.int .i64 0) ∧ Blk w' sb 54 #[.slice none 0 0, .bool true, .bool false] ∧ Touch (fun i => i = sb) w w' := by
  have Hb := Lib.hid h
  clear h
  by_cases hr : rightB 0 n = true
  · have Hr := Lib.hid hr
    clear hr
    go_enter Try.func30, Try.ntmps30
    go_wp2_with (first
      | (go_at_call 51; refine (right_any _ _ _).mono ?_; rintro e w1 ⟨rfl, rfl⟩; rw [Hr.out])
      | (go_at_call 53; refine (scanCut_zero sb v bad n _ Hb.out).mono ?_; rintro e w1 ⟨rfl, h1, ht1⟩; have H1 := Lib.hid h1; have Ht1 := Lib.hid ht1; clear h1 ht1))
    go_ret
    exact ⟨rfl, H1.out, Ht1.out⟩
  · have Hr := Lib.hid (show rightB 0 n = false by simpa using hr)
    clear hr
    go_enter Try.func30, Try.ntmps30
    go_wp2_with (first
      | (go_at_call 51; refine (right_any _ _ _).mono ?_; rintro e w1 ⟨rfl, rfl⟩; rw [Hr.out])
      | (go_at_call 52; refine (scanFail_blk sb v bad false _ Hb.out).mono ?_; rintro e w1 ⟨rfl, h1, ht1⟩; have H1 := Lib.hid h1; have Ht1 := Lib.hid ht1; clear h1 ht1))
    go_ret
    exact ⟨rfl, H1.out, Ht1.out⟩

theorem scanText_nil (w : World) :
    Calls Try.prog 31 #[.pointer none] w fun e w' => e = .returned (.string ⟨#[]⟩) ∧ w = w' := by
  go_enter Try.func31, Try.ntmps31
  go_wp2_with (first | (go_at_call 55; refine (scanGood_nil _).mono ?_; rintro e w1 ⟨rfl, rfl⟩))
  go_ret
  exact ⟨rfl, rfl⟩

theorem scanLeft_nil (w : World) :
    Calls Try.prog 33 #[.pointer none] w fun e w' => e = .returned (.int .i64 0) ∧ w = w' := by
  go_enter Try.func33, Try.ntmps33
  go_wp2_with (first | (go_at_call 55; refine (scanGood_nil _).mono ?_; rintro e w1 ⟨rfl, rfl⟩))
  go_ret
  exact ⟨rfl, rfl⟩

theorem scanBad_nil (w : World) :
    Calls Try.prog 34 #[.pointer none] w fun e w' => e = .returned (.bool true) ∧ w = w' := by
  go_enter Try.func34, Try.ntmps34
  go_wp2_with (first | (go_at_call 55; refine (scanGood_nil _).mono ?_; rintro e w1 ⟨rfl, rfl⟩))
  go_ret
  exact ⟨rfl, rfl⟩

theorem scanDone_nil (w : World) :
    Calls Try.prog 35 #[.pointer none] w fun e w' => e = .returned (.bool false) ∧ w = w' := by
  go_enter Try.func35, Try.ntmps35
  go_wp2_with (first | (go_at_call 55; refine (scanGood_nil _).mono ?_; rintro e w1 ⟨rfl, rfl⟩))
  go_ret
  exact ⟨rfl, rfl⟩

theorem scanBad_zero (sb : Nat) (v : Value) (bad : Bool) (w : World) (h : ∀ i, w.cell? ⟨sb, i, none⟩ = (#[v, .bool bad, .bool false] : Array Value)[i]?) :
    Calls Try.prog 34 #[.pointer (some ⟨sb, 0, none⟩)] w fun e w' => e = .returned (.bool true) ∧ w = w' := by
  go_enter Try.func34, Try.ntmps34
  go_wp2_with (first | (go_at_call 55; refine (scanGood_blk sb v bad false _ h).mono ?_; rintro e w1 ⟨rfl, rfl⟩))
  go_ret
  exact ⟨rfl, rfl⟩

theorem scanDone_zero (sb : Nat) (v : Value) (bad : Bool) (w : World) (h : ∀ i, w.cell? ⟨sb, i, none⟩ = (#[v, .bool bad, .bool false] : Array Value)[i]?) :
    Calls Try.prog 35 #[.pointer (some ⟨sb, 0, none⟩)] w fun e w' => e = .returned (.bool false) ∧ w = w' := by
  go_enter Try.func35, Try.ntmps35
  go_wp2_with (first | (go_at_call 55; refine (scanGood_blk sb v bad false _ h).mono ?_; rintro e w1 ⟨rfl, rfl⟩))
  go_ret
  exact ⟨rfl, rfl⟩

theorem scanTake_zero (sb : Nat) (v : Value) (bad : Bool) (n : Int) (w : World) (h : Blk w sb 54 #[v, .bool bad, .bool false]) :
    Calls Try.prog 32 #[.pointer (some ⟨sb, 0, none⟩), .int .i64 n] w fun e w' =>
      ∃ p c, e = .returned (.slice p 0 c) ∧ Blk w' sb 54 #[.slice none 0 0, .bool true, .bool false] ∧ Touch (fun i => i = sb) w w' := by
  have Hb := Lib.hid h
  clear h
  go_enter Try.func32, Try.ntmps32
  go_wp2_with fail
  refine (scanCut_zero sb v bad n w Hb.out).mono ?_
  rintro e w1 ⟨rfl, h1, ht1⟩
  have H1 := Lib.hid h1
  have Ht1 := Lib.hid ht1
  clear h1 ht1
  go_wp2_with fail
  refine (clone_any none [] 0 w1 (by simp) (BytesIn.nil _ _)).mono ?_
  rintro e w2 ⟨u, rfl, ho, hb2⟩
  obtain ⟨p, c, rfl, _, _, _⟩ := ho.slice
  have H2 := Lib.hid (H1.out.below hb2 H1.out.lt)
  have Ht2 := Lib.hid (Ht1.out.then (Touch.of_below (p := fun _ => False) hb2) (fun _ _ e => e.elim))
  clear ho hb2
  go_wp2
  go_ret
  exact ⟨_, _, rfl, H2.out, Ht2.out⟩

theorem lit4 : (#[.int .u8 97, .int .u8 0, .int .u8 1, .int .u8 2] : Array Value).toList = bytesV [97, 0, 1, 2] := by simp [bytesV, byteV]

set_option maxRecDepth 100000 in
theorem scanAwake (w : World) :
    Calls Try.prog 36 #[] w fun e w' => e = .returned (.bool true) ∧ Touch (fun _ => False) w w' := by
  go_enter Try.func36, Try.ntmps36
  go_wp2_with fail
  refine (scanNew_any (some ⟨w.heap.size, 0, none⟩) [97, 0, 1, 2] 4 _ (by simp) (BytesIn.newB w [97, 0, 1, 2] _ _ lit4)).mono ?_
  rintro e w1 ⟨sb, g, rfl, h1, hsb, hg, ht1⟩
  have H1 := Lib.hid h1
  have Ht1 := Lib.hid (((Touch.refl (fun _ => False) w).alloc _).trans ht1)
  have hsb2 : w.heap.size ≤ sb := by simp at hsb; omega
  clear h1 ht1 hsb hg
  go_wp2_with fail
  refine (scanText_yes sb g [97, 0, 1, 2] 1 _ H1.out (by decide) (by decide)).mono ?_
  rintro e w2 ⟨rfl, h2, ht2⟩
  have hstr : strOf (([97, 0, 1, 2] : List UInt8).take 1) = ⟨#[97]⟩ := rfl
  rw [hstr]
  have H2 : Hid (ScanO w2 sb g [1, 2] false) := Lib.hid h2
  have Ht2 := Lib.hid (Ht1.out.then ht2 (fun i hi e => by omega))
  clear h2 ht2 hstr
  go_wp2_with fail
  refine (scanNum_yes sb g [1, 2] 2 _ H2.out (by decide) (by decide)).mono ?_
  rintro e w3 ⟨rfl, h3, ht3⟩
  have hbe : be (([1, 2] : List UInt8).take 2) = 258 := by decide
  rw [hbe]
  have H3 : Hid (ScanO w3 sb g [] false) := Lib.hid h3
  have Ht3 := Lib.hid (Ht2.out.then ht3 (fun i hi e => by omega))
  clear h3 ht3 hbe
  go_wp2_with fail
  refine (scanDone_any sb g [] false _ H3.out).mono ?_
  rintro e w4 ⟨rfl, rfl⟩
  go_wp2
  go_ret
  exact ⟨rfl, Ht3.out⟩

set_option maxRecDepth 100000 in
theorem scanNobody_walk (n : Int) (w : World) :
    Calls Try.prog 8 #[.int .i64 n] w fun e w' => e = .returned (.bool true) ∧ Below w.heap.size w w' := by
  go_enter Try.func8, Try.ntmps8
  go_wp2_with fail
  refine (scanNum_nil n _).mono ?_
  rintro e w1 ⟨rfl, rfl⟩
  go_wp2_with fail
  have hb : Blk (w.alloc (.cells #[.slice none 0 0, .bool false, .bool false] 54)) w.heap.size 54 #[.slice none 0 0, .bool false, .bool false] := Blk.new w _ _
  have Ht := Lib.hid ((Touch.refl (fun _ => False) w).alloc (.cells #[.slice none 0 0, .bool false, .bool false] 54))
  generalize w.alloc (.cells #[.slice none 0 0, .bool false, .bool false] 54) = w1 at *
  have Hb := Lib.hid hb
  clear hb
  refine (scanNum_zero _ _ _ n _ Hb.out).mono ?_
  rintro e w2 ⟨rfl, hb2, ht2⟩
  have Hb2 := Lib.hid hb2
  have Ht2 := Lib.hid (Ht.out.then ht2 (fun i hi e => by omega))
  clear hb2 ht2
  go_wp2_with fail
  refine (scanText_nil _).mono ?_
  rintro e w3 ⟨rfl, rfl⟩
  go_wp2_with fail
  refine (scanTake_zero _ _ _ n _ Hb2.out).mono ?_
  rintro e w3 ⟨p, c, rfl, hb3, ht3⟩
  have Hb3 := Lib.hid hb3
  have Ht3 := Lib.hid (Ht2.out.then ht3 (fun i hi e => by omega))
  clear hb3 ht3
  go_wp2_with fail
  refine (scanLeft_nil _).mono ?_
  rintro e w4 ⟨rfl, rfl⟩
  go_wp2_with fail
  refine (scanBad_nil _).mono ?_
  rintro e w4 ⟨rfl, rfl⟩
  go_wp2_with fail
  refine (scanBad_zero _ _ _ _ Hb3.out.cell).mono ?_
  rintro e w4 ⟨rfl, rfl⟩
  go_wp2_with fail
  refine (scanDone_nil _).mono ?_
  rintro e w4 ⟨rfl, rfl⟩
  go_wp2_with fail
  refine (scanDone_zero _ _ _ _ Hb3.out.cell).mono ?_
  rintro e w4 ⟨rfl, rfl⟩
  go_wp2_with fail
  refine (scanAwake _).mono ?_
  rintro e w5 ⟨rfl, ht5⟩
  have Ht5 := Lib.hid (Ht3.out.trans ht5)
  clear ht5
  go_wp2
  go_ret
  exact ⟨rfl, Ht5.out.below (Nat.le_refl _) (fun k e => e.elim)⟩

end Go.Proofs.Ythdafefhcdlkbaa
