/-
  The contracts of scan.Text, and of scans that no call made (layer 3).
-/
import Derived.Test.YtjfhpafaopeogaaScanB
import Derived.Test.YtjfhpafaopeogaaIndexBytes
namespace Go.Proofs.Ytjfhpafaopeogaa
open Go.RowKit

theorem scanText_bad (sb g : Nat) (L : List UInt8) (w : World) (h : ScanO w sb g L true) :
    Calls Try.prog 118 #[.pointer (some ⟨sb, 0, none⟩)] w fun e w' => e = .returned (.string ⟨#[]⟩) ∧ w = w' := by
  obtain ⟨p, c, hb, _⟩ := h
  have hc := hb.cell
  clear hb
  go_enter Try.func118, Try.ntmps118
  go_wp2_with (first | (go_at_call 119; refine (scanGood_blk sb _ _ true _ hc).mono ?_; rintro e w1 ⟨rfl, rfl⟩))
  go_ret
  exact ⟨rfl, rfl⟩

theorem scanText_no (sb g : Nat) (L : List UInt8) (w : World) (h : ScanO w sb g L false) (hi : Lib.indexByte L 0 = -1) :
    Calls Try.prog 118 #[.pointer (some ⟨sb, 0, none⟩)] w fun e w' => e = .returned (.string ⟨#[]⟩) ∧ ScanO w' sb g [] true ∧ Touch (fun i => i = sb) w w' := by
  obtain ⟨p, c, hb, _, _, hin, _⟩ := h
  have hc := hb.cell
  have Hb := Lib.hid hb
  have Hin := Lib.hid hin
  have Hi := Lib.hid (show Lib.indexByte L (0 : Int).toNat.toUInt8 = -1 from hi)
  clear hb hin hi
  go_enter Try.func118, Try.ntmps118
  go_wp2_with (first
    | (go_at_call 119; refine (scanGood_blk sb _ _ true _ hc).mono ?_; rintro e w1 ⟨rfl, rfl⟩)
    | (go_at_call 136; refine (bytesIndexByte p L c 0 _ Hin.out).mono ?_; rintro e w1 ⟨rfl, rfl⟩; rw [Hi.out])
    | (go_at_call 115; refine (scanFail_blk sb _ _ true _ Hb.out).mono ?_; rintro e w1 ⟨rfl, hb1, ht1⟩; have Hb1 := Lib.hid hb1; have Ht1 := Lib.hid ht1; clear hb1 ht1))
  go_ret
  exact ⟨rfl, ScanO.failed Hb1.out, Ht1.out⟩

theorem scanText_yes (sb g : Nat) (L : List UInt8) (k : Nat) (w : World) (h : ScanO w sb g L false) (hi : Lib.indexByte L 0 = k) (hk : k < L.length) :
    Calls Try.prog 118 #[.pointer (some ⟨sb, 0, none⟩)] w fun e w' => e = .returned (.string (strOf (L.take k))) ∧ ScanO w' sb g (L.drop (k + 1)) false ∧ Touch (fun i => i = sb) w w' := by
  have H := Lib.hid h
  obtain ⟨p, c, hb, hlc, hcm, hin, _⟩ := h
  have hc := hb.cell
  have Hin := Lib.hid hin
  have Hi := Lib.hid (show Lib.indexByte L (0 : Int).toNat.toUInt8 = k from hi)
  have hk1 : (k : Int) + 1 = ((k + 1 : Nat) : Int) := by omega
  have Hk1 := Lib.hid hk1
  have hconv : ∀ (w : World) (q : Option Addr), BytesIn w q (L.take (k + 1)) → (convert 50 9 (.slice q k (k + 1))).run Try.prog w = .ok (.string (strOf (L.take k))) w := by
    intro w q hq
    have h2 := hq.take k
    rw [List.take_take, Nat.min_eq_left (by omega)] at h2
    have := h2.convert (k + 1) 50 5 9 Try.underlying50 Try.underlying5 Try.underlying9
    rw [List.length_take, Nat.min_eq_left (by omega)] at this
    exact this
  have Hconv := Lib.hid hconv
  unfold maxLen at hcm
  clear hb hin hi hk1 hconv
  generalize strOf (L.take k) = r at Hconv
  go_enter Try.func118, Try.ntmps118
  go_wp2_with (first
    | (go_at_call 119; refine (scanGood_blk sb _ _ true _ hc).mono ?_; rintro e w1 ⟨rfl, rfl⟩)
    | (go_at_call 136; refine (bytesIndexByte p L c 0 _ Hin.out).mono ?_; rintro e w1 ⟨rfl, rfl⟩; rw [Hi.out])
    | (go_at_call 116; rw [Hk1.out]; refine (scanCut_yes sb g L (k + 1) _ H.out (by omega)).mono ?_; rintro e w1 ⟨q, rfl, hq, _, h1, ht1⟩; have hcv := Hconv.out _ _ hq; have H1 := Lib.hid h1; have Ht1 := Lib.hid ht1; clear h1 ht1 hq hc))
  go_ret
  exact ⟨rfl, H1.out, Ht1.out⟩

end Go.Proofs.Ytjfhpafaopeogaa
