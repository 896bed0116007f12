/-
  A server without its client (layer 34): the bytes that it is told; both.
-/
import Derived.Test.YtldjfmddjbdciaaDrA
namespace Go.Proofs.Ytldjfmddjbdciaa
open Go.RowKit
set_option linter.unusedVariables false
set_option linter.unusedSimpArgs false

def foS : FoV := ⟨83, 0, ⟨#[]⟩, ⟨#[]⟩, ⟨#[]⟩, [], [], [], [], 0⟩
def foR : FoV := ⟨81, 0, ⟨#[]⟩, ⟨#[]⟩, ⟨#[114, 111, 108, 108, 98, 97, 99, 107]⟩, [], [], [], [], 0⟩
theorem foS_check : checkF foS = 0 := by decide +kernel
theorem foR_check : checkF foR = 0 := by decide +kernel
theorem foS_enc : encF foS = (83, [], 0) := by decide +kernel
theorem foR_enc : encF foR = (81, [114, 111, 108, 108, 98, 97, 99, 107, 0], 0) := by decide +kernel
theorem foNil_L (f : FoV) (w : World) (S : Nat → Prop) (ho : f.oids = []) (hf : f.formats = []) (hr : f.results = []) (hp : f.params = []) : FoL S w f foNil := by
  refine ⟨?_, ?_, ?_, ?_⟩
  · rw [ho]; exact SliceS.empty none 0 (by simp [maxLen])
  · rw [hf]; exact SliceS.empty none 0 (by simp [maxLen])
  · rw [hr]; exact SliceS.empty none 0 (by simp [maxLen])
  · rw [hp]; exact SliceS.empty none 0 (by simp [maxLen])
theorem foS_small : SmallF foS := ⟨by decide +kernel, by decide +kernel, by decide +kernel, by simp [foS], by simp [foS], by simp [foS], by simp [foS], fun c h => by simp [foS] at h⟩
theorem foR_small : SmallF foR := ⟨by decide +kernel, by decide +kernel, by decide +kernel, by simp [foR], by simp [foR], by simp [foR], by simp [foR], fun c h => by simp [foR] at h⟩
theorem foS_B : FoB foS := by unfold FoB foS; dsimp only; omega
theorem foR_B : FoB foR := by unfold FoB foR; dsimp only; omega

/-- The bytes that are told. -/
def bytesD (plan : Int) : List UInt8 := if plan = 2 then msgL 83 [] else if plan = 3 then msgL 81 [114, 111, 108, 108, 98, 97, 99, 107, 0] else []

def BytR (plan : Int) (w : World) (e : Ending) (w' : World) : Prop := ∃ v, e = .returned v ∧ OwnBR w.heap.size w' v (bytesD plan) ∧ Below w.heap.size w w'

/-- front.Encode, then frame.Bytes, of either message. -/
theorem told_S (w : World) : Calls Try.prog 26 #[.agg #[.int .u8 83, .int .u8 0, .string ⟨#[]⟩, .string ⟨#[]⟩, .string ⟨#[]⟩, .slice none 0 0, .slice none 0 0, .slice none 0 0, .slice none 0 0, .int .i64 0]] w fun e w' => ∃ v, e = .returned (.tuple #[.agg #[.int .u8 83, v], .int .i64 0]) ∧ OwnBR w.heap.size w' v [] ∧ Below w.heap.size w w' := by
  have h := enc_any (fun _ => True) foS foNil w (foNil_L _ _ _ rfl rfl rfl rfl) foS_B foS_small
  unfold EncR at h
  rw [foS_enc] at h
  exact h
theorem told_R (w : World) : Calls Try.prog 26 #[.agg #[.int .u8 81, .int .u8 0, .string ⟨#[]⟩, .string ⟨#[]⟩, .string ⟨#[114, 111, 108, 108, 98, 97, 99, 107]⟩, .slice none 0 0, .slice none 0 0, .slice none 0 0, .slice none 0 0, .int .i64 0]] w fun e w' => ∃ v, e = .returned (.tuple #[.agg #[.int .u8 81, v], .int .i64 0]) ∧ OwnBR w.heap.size w' v [114, 111, 108, 108, 98, 97, 99, 107, 0] ∧ Below w.heap.size w w' := by
  have h := enc_any (fun _ => True) foR foNil w (foNil_L _ _ _ rfl rfl rfl rfl) foR_B foR_small
  unfold EncR at h
  rw [foR_enc] at h
  exact h
theorem rtold_S (w : World) : Calls Try.prog 27 #[.agg #[.int .u8 83, .int .u8 0, .string ⟨#[]⟩, .string ⟨#[]⟩, .string ⟨#[]⟩, .slice none 0 0, .slice none 0 0, .slice none 0 0, .slice none 0 0, .int .i64 0]] w fun e w' => ∃ v, e = .returned (.tuple #[.agg #[.int .u8 83, v], .int .i64 0]) ∧ OwnBR w.heap.size w' v [] ∧ Below w.heap.size w w' := by
  have h := renc_any (fun _ => True) foS foNil w (foNil_L _ _ _ rfl rfl rfl rfl) foS_B foS_small
  unfold EncR at h
  rw [foS_enc] at h
  exact h
theorem rtold_R (w : World) : Calls Try.prog 27 #[.agg #[.int .u8 81, .int .u8 0, .string ⟨#[]⟩, .string ⟨#[]⟩, .string ⟨#[114, 111, 108, 108, 98, 97, 99, 107]⟩, .slice none 0 0, .slice none 0 0, .slice none 0 0, .slice none 0 0, .int .i64 0]] w fun e w' => ∃ v, e = .returned (.tuple #[.agg #[.int .u8 81, v], .int .i64 0]) ∧ OwnBR w.heap.size w' v [114, 111, 108, 108, 98, 97, 99, 107, 0] ∧ Below w.heap.size w w' := by
  have h := renc_any (fun _ => True) foR foNil w (foNil_L _ _ _ rfl rfl rfl rfl) foR_B foR_small
  unfold EncR at h
  rw [foR_enc] at h
  exact h

set_option maxRecDepth 100000 in
theorem message_S (w : World) : Calls Try.prog 45 #[.int .i64 2] w fun e w' => e = .returned (.tuple #[.agg #[.int .u8 83, .int .u8 0, .string ⟨#[]⟩, .string ⟨#[]⟩, .string ⟨#[]⟩, .slice none 0 0, .slice none 0 0, .slice none 0 0, .slice none 0 0, .int .i64 0], .bool true]) ∧ Below w.heap.size w w' := by
  have Hr : Hid (Blk (w.alloc (.cells foZ 44)) w.heap.size 44 foZ) := Lib.hid (Blk.new _ _ _)
  have HA : Hid (Below w.heap.size w (w.alloc (.cells foZ 44))) := Lib.hid ((Below.refl _ _).alloc (Nat.le_refl _) _)
  unfold foZ at Hr HA
  go_enter Try.func45, Try.ntmps45
  go_upto_region 1 with (fail)
  generalize w.alloc (.cells #[.int .u8 0, .int .u8 0, .string ⟨#[]⟩, .string ⟨#[]⟩, .string ⟨#[]⟩, .slice none 0 0, .slice none 0 0, .slice none 0 0, .slice none 0 0, .int .i64 0] 44) = w0 at *
  have hc := Hr.out.cell
  have hf := Hr.out.frozen
  go_wp2_with fail
  have hT := setTen_touch w0 w.heap.size (.int .u8 83) (.int .u8 0) (.string ⟨#[]⟩) (.string ⟨#[]⟩) (.string ⟨#[]⟩) (.slice none 0 0) (.slice none 0 0) (.slice none 0 0) (.slice none 0 0) (.int .i64 0)
  have hbf := setTen_blk (.int .u8 83) (.int .u8 0) (.string ⟨#[]⟩) (.string ⟨#[]⟩) (.string ⟨#[]⟩) (.slice none 0 0) (.slice none 0 0) (.slice none 0 0) (.slice none 0 0) (.int .i64 0) Hr.out
  have HB := Lib.hid (HA.out.trans (hT.below HA.out.size (fun k hk => by omega)))
  unfold setTen at hbf HB
  have hcf := hbf.cell
  clear hT hbf hc hf
  refine bodyPost_ret (v := .tuple #[.agg #[.int .u8 83, .int .u8 0, .string ⟨#[]⟩, .string ⟨#[]⟩, .string ⟨#[]⟩, .slice none 0 0, .slice none 0 0, .slice none 0 0, .slice none 0 0, .int .i64 0], .bool true]) (by simp [results, Try.results45, go_sem, hcf]) rfl ?_
  exact ⟨rfl, HB.out⟩

set_option maxRecDepth 100000 in
theorem message_R (w : World) : Calls Try.prog 45 #[.int .i64 3] w fun e w' => e = .returned (.tuple #[.agg #[.int .u8 81, .int .u8 0, .string ⟨#[]⟩, .string ⟨#[]⟩, .string ⟨#[114, 111, 108, 108, 98, 97, 99, 107]⟩, .slice none 0 0, .slice none 0 0, .slice none 0 0, .slice none 0 0, .int .i64 0], .bool true]) ∧ Below w.heap.size w w' := by
  have Hr : Hid (Blk (w.alloc (.cells foZ 44)) w.heap.size 44 foZ) := Lib.hid (Blk.new _ _ _)
  have HA : Hid (Below w.heap.size w (w.alloc (.cells foZ 44))) := Lib.hid ((Below.refl _ _).alloc (Nat.le_refl _) _)
  unfold foZ at Hr HA
  go_enter Try.func45, Try.ntmps45
  go_upto_region 1 with (fail)
  generalize w.alloc (.cells #[.int .u8 0, .int .u8 0, .string ⟨#[]⟩, .string ⟨#[]⟩, .string ⟨#[]⟩, .slice none 0 0, .slice none 0 0, .slice none 0 0, .slice none 0 0, .int .i64 0] 44) = w0 at *
  have hc := Hr.out.cell
  have hf := Hr.out.frozen
  go_wp2_with fail
  have hT := setTen_touch w0 w.heap.size (.int .u8 81) (.int .u8 0) (.string ⟨#[]⟩) (.string ⟨#[]⟩) (.string ⟨#[114, 111, 108, 108, 98, 97, 99, 107]⟩) (.slice none 0 0) (.slice none 0 0) (.slice none 0 0) (.slice none 0 0) (.int .i64 0)
  have hbf := setTen_blk (.int .u8 81) (.int .u8 0) (.string ⟨#[]⟩) (.string ⟨#[]⟩) (.string ⟨#[114, 111, 108, 108, 98, 97, 99, 107]⟩) (.slice none 0 0) (.slice none 0 0) (.slice none 0 0) (.slice none 0 0) (.int .i64 0) Hr.out
  have HB := Lib.hid (HA.out.trans (hT.below HA.out.size (fun k hk => by omega)))
  unfold setTen at hbf HB
  have hcf := hbf.cell
  clear hT hbf hc hf
  refine bodyPost_ret (v := .tuple #[.agg #[.int .u8 81, .int .u8 0, .string ⟨#[]⟩, .string ⟨#[]⟩, .string ⟨#[114, 111, 108, 108, 98, 97, 99, 107]⟩, .slice none 0 0, .slice none 0 0, .slice none 0 0, .slice none 0 0, .int .i64 0], .bool true]) (by simp [results, Try.results45, go_sem, hcf]) rfl ?_
  exact ⟨rfl, HB.out⟩

set_option maxRecDepth 100000 in
theorem message_O (p : Int) (h2 : p ≠ 2) (h3 : p ≠ 3) (w : World) : Calls Try.prog 45 #[.int .i64 p] w fun e w' => e = .returned (.tuple #[.agg #[.int .u8 0, .int .u8 0, .string ⟨#[]⟩, .string ⟨#[]⟩, .string ⟨#[]⟩, .slice none 0 0, .slice none 0 0, .slice none 0 0, .slice none 0 0, .int .i64 0], .bool false]) ∧ Below w.heap.size w w' := by
  have g2 : (p == 2) = false := by simpa using h2
  have g3 : (p == 3) = false := by simpa using h3
  clear h2 h3
  have Hr : Hid (Blk (w.alloc (.cells foZ 44)) w.heap.size 44 foZ) := Lib.hid (Blk.new _ _ _)
  have HA : Hid (Below w.heap.size w (w.alloc (.cells foZ 44))) := Lib.hid ((Below.refl _ _).alloc (Nat.le_refl _) _)
  unfold foZ at Hr HA
  go_enter Try.func45, Try.ntmps45
  go_upto_region 1 with (fail)
  generalize w.alloc (.cells #[.int .u8 0, .int .u8 0, .string ⟨#[]⟩, .string ⟨#[]⟩, .string ⟨#[]⟩, .slice none 0 0, .slice none 0 0, .slice none 0 0, .slice none 0 0, .int .i64 0] 44) = w0 at *
  have hc := Hr.out.cell
  have hf := Hr.out.frozen
  go_wp2_with fail
  have hT := setTen_touch w0 w.heap.size (.int .u8 0) (.int .u8 0) (.string ⟨#[]⟩) (.string ⟨#[]⟩) (.string ⟨#[]⟩) (.slice none 0 0) (.slice none 0 0) (.slice none 0 0) (.slice none 0 0) (.int .i64 0)
  have hbf := setTen_blk (.int .u8 0) (.int .u8 0) (.string ⟨#[]⟩) (.string ⟨#[]⟩) (.string ⟨#[]⟩) (.slice none 0 0) (.slice none 0 0) (.slice none 0 0) (.slice none 0 0) (.int .i64 0) Hr.out
  have HB := Lib.hid (HA.out.trans (hT.below HA.out.size (fun k hk => by omega)))
  unfold setTen at hbf HB
  have hcf := hbf.cell
  clear hT hbf hc hf
  refine bodyPost_ret (v := .tuple #[.agg #[.int .u8 0, .int .u8 0, .string ⟨#[]⟩, .string ⟨#[]⟩, .string ⟨#[]⟩, .slice none 0 0, .slice none 0 0, .slice none 0 0, .slice none 0 0, .int .i64 0], .bool false]) (by simp [results, Try.results45, go_sem, hcf]) rfl ?_
  exact ⟨rfl, HB.out⟩

theorem frame83 (p : Option Addr) (l : List UInt8) (c : Nat) (w : World) (hx : BytesIn w p l) (hl : l.length ≤ 100000) : Calls Try.prog 46 #[.agg #[.int .u8 83, .slice p l.length c]] w fun e w' => ∃ v, e = .returned v ∧ OwnBR w.heap.size w' v (msgL 83 l) ∧ Below w.heap.size w w' := frBytes_any 83 l p c w hx hl
theorem frame81 (p : Option Addr) (l : List UInt8) (c : Nat) (w : World) (hx : BytesIn w p l) (hl : l.length ≤ 100000) : Calls Try.prog 46 #[.agg #[.int .u8 81, .slice p l.length c]] w fun e w' => ∃ v, e = .returned v ∧ OwnBR w.heap.size w' v (msgL 81 l) ∧ Below w.heap.size w w' := frBytes_any 81 l p c w hx hl
theorem rframe83 (p : Option Addr) (l : List UInt8) (c : Nat) (w : World) (hx : BytesIn w p l) (hl : l.length ≤ 100000) : Calls Try.prog 47 #[.agg #[.int .u8 83, .slice p l.length c]] w fun e w' => ∃ v, e = .returned v ∧ OwnBR w.heap.size w' v (msgL 83 l) ∧ Below w.heap.size w w' := frBytesR_any 83 l p c w hx hl
theorem rframe81 (p : Option Addr) (l : List UInt8) (c : Nat) (w : World) (hx : BytesIn w p l) (hl : l.length ≤ 100000) : Calls Try.prog 47 #[.agg #[.int .u8 81, .slice p l.length c]] w fun e w' => ∃ v, e = .returned v ∧ OwnBR w.heap.size w' v (msgL 81 l) ∧ Below w.heap.size w w' := frBytesR_any 81 l p c w hx hl

end Go.Proofs.Ytldjfmddjbdciaa
