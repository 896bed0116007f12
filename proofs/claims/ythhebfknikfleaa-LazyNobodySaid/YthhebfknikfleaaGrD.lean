/-
  What is said first (layer 11): far, awake, HasSuffix.
-/
import Derived.Test.YthhebfknikfleaaGrC
import Derived.Test.YthhebfknikfleaaPackA
namespace Go.Proofs.Ythhebfknikfleaa
open Go.RowKit
set_option linter.unusedVariables false
set_option linter.unusedSimpArgs false

def NearP (l : List PaV) : Prop := l.length ≤ 40 ∧ ∀ (j : Nat) (hj : j < l.length), l[j].name.size ≤ 200 ∧ l[j].value.size ≤ 200
def FarR (l : List PaV) (w : World) (e : Ending) (w' : World) : Prop := ∃ b, e = .returned (.bool b) ∧ (b = false → NearP l) ∧ Below w.heap.size w w'
theorem FarR.far {l : List PaV} {w w' : World} (h : Below w.heap.size w w') : FarR l w (.returned (.bool true)) w' := ⟨true, rfl, (fun e => by cases e), h⟩
theorem FarR.near {l : List PaV} {w w' : World} (hn : NearP l) (h : Below w.heap.size w w') : FarR l w (.returned (.bool false)) w' := ⟨false, rfl, (fun _ => hn), h⟩
set_option maxRecDepth 100000 in
set_option maxHeartbeats 1000000 in
theorem gfar_any (S : Nat → Prop) (p : Option Addr) (n c : Nat) (l : List PaV) (w : World) (h : SliceS 2 PaS S w [.slice p n c] l) :
    Calls Try.prog 9 #[.slice p n c] w (FarR l w) := by
  obtain ⟨rfl, hlc, hcm⟩ := h.len
  unfold maxLen at hcm
  have H := Lib.hid h
  have Hm : Hid (l.length ≤ 40 → (∀ (j : Nat) (hj : j < l.length), j < l.length → l[j].name.size ≤ 200 ∧ l[j].value.size ≤ 200) → NearP l) := Lib.hid (fun h g => ⟨h, fun j hj => g j hj hj⟩)
  clear h
  go_enter Try.func9, Try.ntmps9
  go_wp2_with fail
  go_loopw [7] (fun i wr => ∃ k : Nat, k ≤ l.length ∧ k ≤ 40 ∧ i = .int .i64 k ∧ (∀ (j : Nat) (hj : j < l.length), j < k → l[j].name.size ≤ 200 ∧ l[j].value.size ≤ 200) ∧ Below w.heap.size w wr) (fun i _ => l.length - (intOf i).toNat)
  case atStart => exact ⟨0, Nat.zero_le _, Nat.zero_le _, rfl, (fun j _ h => by omega), Below.refl _ _⟩
  case round =>
    obtain ⟨k, hk, hk4, rfl, hall, hb⟩ := hrel
    have hsz := hb.size
    have Hb := Lib.hid hb
    have Hall := Lib.hid hall
    by_cases hlt : k < l.length
    · obtain ⟨b, o, rfl, hS, hbl, c0, c1⟩ := pa_at (H.out.below PaS.still hb) hlt
      have Hnx := Lib.hid (fun h : l[k].name.size ≤ 200 ∧ l[k].value.size ≤ 200 => (fun j hj hjk => by
        by_cases e : j = k
        · subst e; exact h
        · exact Hall.out j hj (by omega) : ∀ (j : Nat) (hj : j < l.length), j < k + 1 → l[j].name.size ≤ 200 ∧ l[j].value.size ≤ 200))
      have HB := Lib.hid (Hb.out.alloc hsz (.cells #[.string l[k].name, .string l[k].value] 84))
      clear hb hS hall
      generalize l[k] = x at *
      obtain ⟨xn, xv⟩ := x
      dsimp only at *
      have hlti : (k : Int) < (l.length : Int) := by omega
      by_cases h40 : (40 : Int) ≤ (k : Int)
      · go_wp2_with fail
        go_ret
        exact FarR.far HB.out
      · by_cases hn : (200 : Int) < (xn.size : Int)
        · go_wp2_with fail
          go_ret
          exact FarR.far HB.out
        · by_cases hv : (200 : Int) < (xv.size : Int)
          · go_wp2_with fail
            go_ret
            exact FarR.far HB.out
          · have Hx := Lib.hid (Hnx.out ⟨by omega, by omega⟩)
            clear Hnx
            go_wp2_with fail
            go_roundw
            case rel => exact ⟨k + 1, by omega, by omega, by go_num, Hx.out, HB.out⟩
            case measure => simp [intOf]; omega
    · obtain rfl : k = l.length := by omega
      have Hx := Lib.hid (Hm.out hk4 Hall.out)
      clear hb hall
      go_wp2_with fail
      go_ret
      exact FarR.near Hx.out Hb.out

theorem greet_short {l : List PaV} (id : Int) (h : NearP l) : ∀ x ∈ greetV l id, ShortB x := by
  have nil : ∀ (m : Nat), ∀ c ∈ ([] : List CoV), c.name.size ≤ m := fun m c hc => by cases hc
  intro x hx
  simp only [greetV, List.mem_append, List.mem_cons, List.mem_map, List.not_mem_nil, or_false] at hx
  rcases hx with (rfl | ⟨q, hq, rfl⟩) | rfl | rfl
  · refine ⟨⟨Nat.zero_le _, Nat.zero_le _, Nat.zero_le _, Nat.zero_le _, Nat.zero_le _, fun c hc => (by cases hc), Nat.zero_le _, fun c hc => (by cases hc), Nat.zero_le _, fun c hc => (by cases hc)⟩, ?_⟩
    have := putV_len4 [] 0 4
    show (putV [] 0 4).length ≤ 100000
    simp only [List.length_nil] at this
    omega
  · obtain ⟨j, hj, rfl⟩ := List.getElem_of_mem hq
    have hs := h.2 j hj
    refine ⟨⟨Nat.zero_le _, show l[j].name.size ≤ 100000 by omega, show l[j].value.size ≤ 100000 by omega, Nat.zero_le _, Nat.zero_le _, fun c hc => (by cases hc), Nat.zero_le _, fun c hc => (by cases hc), Nat.zero_le _, fun c hc => (by cases hc)⟩, ?_⟩
    have h1 := strB_len [] l[j].name
    have h2 := strB_len (strB [] l[j].name) l[j].value
    show (strB (strB [] l[j].name) l[j].value).length ≤ 100000
    simp only [List.length_nil] at h1
    omega
  · refine ⟨⟨Nat.zero_le _, Nat.zero_le _, Nat.zero_le _, Nat.zero_le _, Nat.zero_le _, fun c hc => (by cases hc), Nat.zero_le _, fun c hc => (by cases hc), Nat.zero_le _, fun c hc => (by cases hc)⟩, ?_⟩
    have h1 := putV_len4 [] (keyI id) 4
    have h2 := putV_len4 (putV [] (keyI id) 4) (keyM id) 4
    show (putV (putV [] (keyI id) 4) (keyM id) 4).length ≤ 100000
    simp only [List.length_nil] at h1
    omega
  · refine ⟨⟨Nat.zero_le _, Nat.zero_le _, Nat.zero_le _, Nat.zero_le _, Nat.zero_le _, fun c hc => (by cases hc), Nat.zero_le _, fun c hc => (by cases hc), Nat.zero_le _, fun c hc => (by cases hc)⟩, ?_⟩
    show ([UInt8.ofNat (73 : Int).toNat] : List UInt8).length ≤ 100000
    decide
theorem near_nil : NearP [] := ⟨Nat.zero_le _, fun j hj => by simp at hj⟩
theorem near_ab : NearP [⟨⟨#[97]⟩, ⟨#[98]⟩⟩] := ⟨by show 1 ≤ 40; omega, fun j hj => by
  have : j = 0 := by simpa using hj
  subst this
  exact ⟨by show (1 : Nat) ≤ 200; omega, by show (1 : Nat) ≤ 200; omega⟩⟩
theorem len28 : (bytesB (greetV [] 0)).length = 28 := by decide +kernel
theorem key0 : keyI 0 = 1 ∧ keyM 0 = 7919 := by decide

set_option maxRecDepth 100000 in
set_option maxHeartbeats 1000000 in
theorem grAwake_any (w : World) : Calls Try.prog 10 #[] w fun e w' => e = .returned (.bool true) ∧ Below w.heap.size w w' := by
  have HK := Lib.hid (keys_any 0 w)
  rw [key0.1, key0.2] at HK
  have hal : Below w.heap.size w (w.alloc (.cells #[.string ⟨#[97]⟩, .string ⟨#[98]⟩] 84)) := (Below.refl _ _).alloc (Nat.le_refl _) _
  have HBa := Lib.hid hal
  have HBk := Lib.hid (backs_any _ _ _ _ [⟨⟨#[97]⟩, ⟨#[98]⟩⟩] 0 _ (SliceS.new1 (S := fun _ => False) PaS.still w 84 #[.string ⟨#[97]⟩, .string ⟨#[98]⟩] ⟨⟨#[97]⟩, ⟨#[98]⟩⟩ ⟨rfl, by simp [maxLen, ByteArray.size], by simp [maxLen, ByteArray.size]⟩ rfl (S' := fun _ => True) (fun _ _ h => h.elim) trivial) (by show 1 ≤ 1000; omega))
  have HBy := Lib.hid (fun w0 : World => gbytes_any (fun _ => True) none 0 0 [] 0 w0 (SliceS.empty none 0 (by simp [maxLen])) (Nat.zero_le _) (greet_short 0 near_nil))
  rw [len28] at HBy
  clear hal
  go_enter Try.func10, Try.ntmps10
  go_wp2_with fail
  refine HK.out.mono ?_
  rintro e wx ⟨rfl, rfl⟩
  go_wp2_with fail
  refine HBk.out.mono ?_
  rintro e w2 ⟨p2, c2, rfl, hs2, hb2⟩
  have HB2 := Lib.hid (HBa.out.trans (hb2.mono HBa.out.size))
  have hlc2 := hs2.len.2.1
  have hcm2 := hs2.len.2.2
  unfold maxLen at hcm2
  obtain ⟨b, o, a, rfl, hbl, _, _, d0, _⟩ := ba_at hs2 (k := 3) (by show 3 < 4; omega)
  have d1 : w2.cell? ⟨b, o + 3 * 11, none⟩ = some (.int .u8 90) := d0
  clear hs2 hb2 d0 HK HBk
  have hl4 : ([⟨⟨#[97]⟩, ⟨#[98]⟩⟩] : List PaV).length = 1 := rfl
  have hg4 : (greetV [⟨⟨#[97]⟩, ⟨#[98]⟩⟩] 0).length = 4 := rfl
  rw [hg4] at hlc2
  simp only [hl4]
  clear hl4 hg4
  go_wp2_with fail
  refine (HBy.out w2).mono ?_
  rintro e w3 ⟨p3, c3, rfl, -, hb⟩
  have HB3 := Lib.hid (HB2.out.trans (hb.mono HB2.out.size))
  clear hb d1
  go_wp2_with fail
  go_ret
  exact ⟨rfl, HB3.out⟩

theorem BytesIn.dropB {w : World} {b o : Nat} {l m : List UInt8} (h : BytesIn w (some ⟨b, o, none⟩) (l ++ m)) : BytesIn w (some ⟨b, o + l.length, none⟩) m := by
  intro i hi
  obtain ⟨b', o', e, hc⟩ := h (l.length + i) (by rw [List.length_append]; omega)
  simp only [Option.some.injEq, Addr.mk.injEq, and_true] at e
  obtain ⟨rfl, rfl⟩ := e
  refine ⟨b, o + l.length, rfl, ?_⟩
  rw [Nat.add_assoc, hc]
  congr 1
  simp [byteV, List.getD_eq_getElem?_getD, List.getElem?_append_right]

set_option maxRecDepth 100000 in
theorem hasSuffix_at (p q : Option Addr) (l m : List UInt8) (n c d : Nat) (w : World) (hn : n = (l ++ m).length) (hm : 0 < m.length) (hc : n ≤ c) (hcm : c ≤ maxLen) (h1 : BytesIn w p (l ++ m)) (h2 : BytesIn w q m) :
    Calls Try.prog 19 #[.slice p n c, .slice q m.length d] w fun e w' => e = .returned (.bool true) ∧ w = w' := by
  unfold maxLen at hcm
  obtain ⟨b, o, rfl⟩ := h1.addr (by rw [List.length_append]; omega)
  have h3 := h1.dropB
  have H := Lib.hid (fun cx => equal_any (some ⟨b, o + l.length, none⟩) q m m cx d w h3 h2)
  rw [List.length_append] at hn
  clear h1 h2 h3
  generalize l.length = k at *
  generalize hmk : m.length = mk at *
  have e1 : (mk : Int) ≤ (n : Int) := by omega
  have e2 : IntKind.i64.wrap ((n : Int) - (mk : Int)) = (k : Int) := by rw [IntKind.wrap_i64]; omega
  have e3 : (k : Int) ≤ (n : Int) := by omega
  have e4 : (n : Int) ≤ (c : Int) := by omega
  have e5 : ¬ c = k := by omega
  have e6 : n - k = mk := by omega
  have e7 : (n : Int) - (mk : Int) = (k : Int) := by omega
  have e8 : (0 : Int) ≤ (k : Int) := by omega
  clear hn hmk
  go_enter Try.func19, Try.ntmps19
  go_wp2_with fail
  refine (H.out _).mono ?_
  rintro e w1 ⟨rfl, rfl⟩
  rw [beq_self_eq_true]
  go_wp2_with fail
  go_ret
  exact ⟨rfl, rfl⟩

end Go.Proofs.Ythhebfknikfleaa
