/-
  bytes.HasPrefix where the prefix is there (layer 4).
-/
import Derived.Test.YtpdkoijgemgaiaaFrT
namespace Go.Proofs.Ytpdkoijgemgaiaa
open Go.RowKit

set_option maxRecDepth 100000 in
theorem hasPrefix_at (b o : Nat) (s : Option Nat) (q : Option Addr) (l m : List UInt8) (n c d : Nat) (w : World) (hn : n = (l ++ m).length) (hc : n ≤ c) (h1 : BytesIn w (some ⟨b, o, s⟩) (l ++ m)) (h2 : BytesIn w q l) :
    Calls Try.prog 69 #[.slice (some ⟨b, o, s⟩) n c, .slice q l.length d] w fun e w' => e = .returned (.bool true) ∧ w = w' := by
  have h3 := h1.take l.length
  rw [List.take_left] at h3
  have H := Lib.hid (equal_any (some ⟨b, o, s⟩) q l l c d w h3 h2)
  have hln : l.length ≤ n := by rw [hn, List.length_append]; omega
  have e1 : (l.length : Int) ≤ (n : Int) := by omega
  have e2 : (l.length : Int) ≤ (c : Int) := by omega
  have e3 : (0 : Int) ≤ (l.length : Int) := by omega
  clear hn h1 h2 h3 hln hc
  go_enter Try.func69, Try.ntmps69
  go_wp2_with (go_at_call 58; refine H.out.mono ?_; rintro e w1 ⟨rfl, rfl⟩; rw [beq_self_eq_true])
  go_ret
  exact ⟨rfl, rfl⟩

set_option maxRecDepth 100000 in
theorem hasPrefix_none (q : Option Addr) (l m : List UInt8) (n c d : Nat) (w : World) (hn : n = (l ++ m).length) (hc : n ≤ c) (h1 : BytesIn w none (l ++ m)) (h2 : BytesIn w q l) :
    Calls Try.prog 69 #[.slice none n c, .slice q l.length d] w fun e w' => e = .returned (.bool true) ∧ w = w' := by
  have h3 := h1.take l.length
  rw [List.take_left] at h3
  have H := Lib.hid (equal_any none q l l c d w h3 h2)
  have hln : l.length ≤ n := by rw [hn, List.length_append]; omega
  have e1 : (l.length : Int) ≤ (n : Int) := by omega
  have e2 : (l.length : Int) ≤ (c : Int) := by omega
  have e3 : (0 : Int) ≤ (l.length : Int) := by omega
  clear hn h1 h2 h3 hln hc
  go_enter Try.func69, Try.ntmps69
  go_wp2_with (go_at_call 58; refine H.out.mono ?_; rintro e w1 ⟨rfl, rfl⟩; rw [beq_self_eq_true])
  go_ret
  exact ⟨rfl, rfl⟩

set_option maxRecDepth 100000 in
theorem hasPrefix_nil (p q : Option Addr) (c d : Nat) (w : World) :
    Calls Try.prog 69 #[.slice p 0 c, .slice q 0 d] w fun e w' => e = .returned (.bool true) ∧ w = w' := by
  have H := Lib.hid (fun r => equal_any r q [] [] c d w (BytesIn.nil _ _) (BytesIn.nil _ _))
  cases p
  all_goals
    go_enter Try.func69, Try.ntmps69
    go_wp2_with (go_at_call 58; refine (H.out _).mono ?_; rintro e w1 ⟨rfl, rfl⟩; rw [beq_self_eq_true])
    go_ret
    exact ⟨rfl, rfl⟩

end Go.Proofs.Ytpdkoijgemgaiaa
