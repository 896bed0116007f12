/-
  The contract of remudaref03's Text (layer 3).
-/
import Derived.Test.YtjfhpafaopeogaaScanG
namespace Go.Proofs.Ytjfhpafaopeogaa
open Go.RowKit

theorem indexByte_at : ∀ (l : List UInt8) (c : UInt8) (k : Nat), k < l.length → (∀ j, j < k → l.getD j 0 ≠ c) → l.getD k 0 = c → Lib.indexByte l c = k
  | [], _, _, h, _, _ => by simp at h
  | b :: l, c, 0, _, _, hc => by
    unfold Lib.indexByte
    have : b = c := by simpa using hc
    simp [this]
  | b :: l, c, k + 1, hk, hj, hc => by
    have hb : ¬ b = c := by simpa using hj 0 (by omega)
    have ih := indexByte_at l c k (by simpa using hk) (fun j hjk => by simpa using hj (j + 1) (by omega)) (by simpa using hc)
    unfold Lib.indexByte
    have hb' : (b == c) = false := by simpa using hb
    rw [hb', ih]
    have h1 : (((k : Int)) == -1) = false := by simp
    rw [h1]
    simp

theorem indexByte_none : ∀ (l : List UInt8) (c : UInt8), (∀ j, j < l.length → l.getD j 0 ≠ c) → Lib.indexByte l c = -1
  | [], _, _ => rfl
  | b :: l, c, hj => by
    have hb : ¬ b = c := by simpa using hj 0 (by simp)
    have ih := indexByte_none l c (fun j hjk => by simpa using hj (j + 1) (by simpa using hjk))
    unfold Lib.indexByte
    have hb' : (b == c) = false := by simpa using hb
    rw [hb', ih]
    simp

/-- What Text answers. -/
def TextR (xb g : Nat) (L : List UInt8) (no : Bool) (e : Ending) (w' : World) : Prop :=
  (no = false ∧ ∃ k, Lib.indexByte L 0 = (k : Nat) ∧ k < L.length ∧ e = .returned (.string (strOf (L.take k))) ∧ RefS w' xb g (L.drop (k + 1)) false) ∨
    ((no = true ∨ Lib.indexByte L 0 = -1) ∧ e = .returned (.string ⟨#[]⟩) ∧ RefS w' xb g L true)

set_option maxHeartbeats 1000000 in
set_option maxRecDepth 100000 in
theorem refSText_any (xb g : Nat) (L : List UInt8) (no : Bool) (w : World) (h : RefS w xb g L no) (hL : L.length ≤ 1000000000) :
    Calls Try.prog 121 #[.pointer (some ⟨xb, 0, none⟩)] w fun e w' =>
      TextR xb g L no e w' ∧ Touch (fun i => i = xb) w w' := by
  obtain ⟨p, c, hC⟩ := h
  have HC : Hid (RefC w xb g L no p c) := Lib.hid hC
  obtain ⟨hb, h1, h2, h3, h4, h5, h6⟩ := hC
  have hc := hb.cell
  have hf0 := hb.frozen 0
  have hf1 := hb.frozen 1
  have hT : Touch (fun i => i = xb) w (w.setCell ⟨xb, 1, none⟩ (.bool true)) := (Touch.refl (fun i => i = xb) w).setCell (x := ⟨xb, 1, none⟩) (fun _ => rfl) _
  have Hend : Hid (RefS (w.setCell ⟨xb, 1, none⟩ (.bool true)) xb g L true ∧ Touch (fun i => i = xb) w (w.setCell ⟨xb, 1, none⟩ (.bool true))) := Lib.hid ⟨⟨p, c, by have := hb.set_ 1 (.bool true); simpa using this, h1, h2, hT.bytesIn h3 (fun hne x hx e => h5 hne (by rw [← h4 x hx]; exact e)), h4, h5, h6⟩, hT⟩
  have Hin := Lib.hid h3
  have H6 := Lib.hid h6
  have h2' := h2
  unfold maxLen at h2'
  clear hb h3 h4 h5 h6 h2 hT
  go_enter Try.func121, Try.ntmps121
  go_wp2
  go_loop [3] (fun i => ∃ k : Nat, k ≤ L.length ∧ i = .int .i64 k ∧ ∀ j, j < k → L.getD j 0 ≠ 0) (fun i => L.length - (intOf i).toNat)
  case atStart => exact ⟨0, Nat.zero_le _, rfl, fun j h => by omega⟩
  case round =>
    obtain ⟨k, hk, rfl, hall⟩ := hrel
    have Hall := Lib.hid hall
    clear hall
    by_cases hlt : k < L.length
    · cases no
      · obtain ⟨b, o, rfl⟩ := Hin.out.addr (by omega)
        have hcell := Hin.out.cellAt k hlt
        have hu := u8_bd (L.getD k 0)
        have hconv : (convert 50 9 (.slice (some ⟨b, o, none⟩) k c)).run Try.prog w = .ok (.string (strOf (L.take k))) w := by
          have := (Hin.out.take k).convert c 50 5 9 Try.underlying50 Try.underlying5 Try.underlying9
          rw [List.length_take, Nat.min_eq_left (by omega)] at this
          exact this
        generalize hs : strOf (L.take k) = str at hconv
        have Hs := Lib.hid hs
        clear hs
        by_cases hz : L.getD k 0 = 0
        · have Hidx := Lib.hid (indexByte_at L 0 k hlt Hall.out hz)
          have hz0 : ((L.getD k 0).toNat : Int) = 0 := by rw [hz]; rfl
          rw [hz0] at hcell
          clear hu hz hz0
          by_cases hck : k + 1 = c
          · have HC2 : Hid (RefC w xb g L false (some ⟨b, o, none⟩) (k + 1)) := Lib.hid (by rw [hck]; exact HC.out)
            have hck2 : ¬ c = k := by omega
            go_wp2
            go_ret
            obtain ⟨k1, k2⟩ := HC2.out.cut_eq
            exact ⟨.inl ⟨rfl, k, Hidx.out, hlt, by rw [Hs.out]; rfl, k1⟩, k2⟩
          · have hck2 : ¬ c = k + 1 := fun e => hck e.symm
            go_wp2
            go_ret
            obtain ⟨k1, k2⟩ := HC.out.cut_ne (k + 1) (by omega)
            rw [Addr.add_lit] at k1 k2
            exact ⟨.inl ⟨rfl, k, Hidx.out, hlt, by rw [Hs.out]; rfl, k1⟩, k2⟩
        · have hz2 : ¬ ((L.getD k 0).toNat : Int) = 0 := by
            intro e
            apply hz
            apply UInt8.toNat_inj.1
            have h0 : (0 : UInt8).toNat = 0 := rfl
            omega
          generalize hgd : L.getD k 0 = x at hcell hu hz2
          have Hz := Lib.hid hz
          clear hz hgd
          go_wp2
          go_round
          case rel => exact ⟨k + 1, by omega, by go_num, fun j hj => by
            by_cases e : j = k
            · subst e; exact Hz.out
            · exact Hall.out j (by omega)⟩
          case measure => simp [intOf]; omega
      · go_wp2
        go_ret
        exact ⟨.inr ⟨.inl rfl, rfl, Hend.out.1⟩, Hend.out.2⟩
    · have Hidx := Lib.hid (indexByte_none L 0 (fun j hj => Hall.out j (by omega)))
      go_wp2
      go_ret
      exact ⟨.inr ⟨.inr Hidx.out, rfl, Hend.out.1⟩, Hend.out.2⟩

end Go.Proofs.Ytjfhpafaopeogaa
