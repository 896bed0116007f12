/-
  Ground (layer 38): the walk of LazyTells.
-/
import Derived.Test.YthhebfknikfleaaGreatLzE
import Derived.Test.YthhebfknikfleaaGreatPackA
import Derived.Test.YthhebfknikfleaaGreatPackA
namespace Go.Proofs.YthhebfknikfleaaGreat
open Go.RowKit
set_option linter.unusedVariables false
set_option linter.unusedSimpArgs false

set_option maxRecDepth 100000 in
set_option maxHeartbeats 1000000 in
theorem lzfar_any (S : Nat → Prop) (p : Option Addr) (n c : Nat) (l : List PaV) (w : World) (h : SliceS 2 PaS S w [.slice p n c] l) :
    Calls Tryz.prog 7 #[.slice p n c] w (FarR l w) := by
  obtain ⟨rfl, hlc, hcm⟩ := h.len
  unfold maxLen at hcm
  have H := Lib.hid h
  have Hm : Hid (l.length ≤ 40 → (∀ (j : Nat) (hj : j < l.length), j < l.length → l[j].name.size ≤ 200 ∧ l[j].value.size ≤ 200) → NearP l) := Lib.hid (fun h g => ⟨h, fun j hj => g j hj hj⟩)
  clear h
  go_enter Tryz.func7, Tryz.ntmps7
  go_wp2_with fail
  go_loopw [7] (fun i wr => ∃ k : Nat, k ≤ l.length ∧ k ≤ 40 ∧ i = .int .i64 k ∧ (∀ (j : Nat) (hj : j < l.length), j < k → l[j].name.size ≤ 200 ∧ l[j].value.size ≤ 200) ∧ Below w.heap.size w wr) (fun i _ => l.length - (intOf i).toNat)
  case atStart => exact ⟨0, Nat.zero_le _, Nat.zero_le _, rfl, (fun j _ h => by omega), Below.refl _ _⟩
  case round =>
    obtain ⟨k, hk, hk4, rfl, hall, hb⟩ := hrel
    have hsz := hb.size
    have Hb := Lib.hid hb
    have Hall := Lib.hid hall
    by_cases hlt : k < l.length
    · obtain ⟨b, o, rfl, hS, hbl, c0, c1⟩ := pa_at (H.out.below PaS.still hb) hlt
      have Hnx := Lib.hid (fun h : l[k].name.size ≤ 200 ∧ l[k].value.size ≤ 200 => (fun j hj hjk => by
        by_cases e : j = k
        · subst e; exact h
        · exact Hall.out j hj (by omega) : ∀ (j : Nat) (hj : j < l.length), j < k + 1 → l[j].name.size ≤ 200 ∧ l[j].value.size ≤ 200))
      have HB := Lib.hid (Hb.out.alloc hsz (.cells #[.string l[k].name, .string l[k].value] 55))
      clear hb hS hall
      generalize l[k] = x at *
      obtain ⟨xn, xv⟩ := x
      dsimp only at *
      have hlti : (k : Int) < (l.length : Int) := by omega
      by_cases h40 : (40 : Int) ≤ (k : Int)
      · go_wp2_with fail
        go_ret
        exact FarR.far HB.out
      · by_cases hn : (200 : Int) < (xn.size : Int)
        · go_wp2_with fail
          go_ret
          exact FarR.far HB.out
        · by_cases hv : (200 : Int) < (xv.size : Int)
          · go_wp2_with fail
            go_ret
            exact FarR.far HB.out
          · have Hx := Lib.hid (Hnx.out ⟨by omega, by omega⟩)
            clear Hnx
            go_wp2_with fail
            go_roundw
            case rel => exact ⟨k + 1, by omega, by omega, by go_num, Hx.out, HB.out⟩
            case measure => simp [intOf]; omega
    · obtain rfl : k = l.length := by omega
      have Hx := Lib.hid (Hm.out hk4 Hall.out)
      clear hb hall
      go_wp2_with fail
      go_ret
      exact FarR.near Hx.out Hb.out


theorem addB_app (b : List UInt8) (x : BaV) : addB b x = b ++ addB [] x := by
  unfold addB; split <;> simp
theorem foldl_addB (L : List BaV) : ∀ b : List UInt8, L.foldl addB b = b ++ L.foldl addB [] := by
  induction L with
  | nil => intro b; simp
  | cons x L ih =>
    intro b
    simp only [List.foldl_cons]
    rw [ih (addB b x), ih (addB [] x), addB_app b x, List.append_assoc]
theorem lz_split (l : List PaV) (id : Int) : bytesB (greetV l id) = alikeL l ++ bytesB [keyB id, idleB] := by
  unfold alikeL bytesB greetV
  rw [List.foldl_append, foldl_addB [keyB id, idleB]]
theorem lz_sizes {l : List PaV} (h : NearP l) (id : Int) : (alikeL l).length ≤ 100000000 ∧ (bytesB [keyB id, idleB]).length ≤ 100000000 := by
  have h1 := bytP_len (greetV l id) (fun x hx => (greet_short id h x hx).l) _ (Nat.le_refl _)
  rw [bytP_all, lz_split, greet_len, List.length_append] at h1
  have := h.1
  omega
theorem eqB_true38 {w : World} {p q : Option Addr} {c d : Nat} {l : List UInt8} (h : BytesIn w p l) (g : BytesIn w q l) :
    Calls Tryz.prog 12 #[.slice p l.length c, .slice q l.length d] w fun e w' => e = .returned (.bool true) ∧ w = w' := by
  have := equal_any p q l l c d w h g
  rw [beq_self_eq_true] at this
  exact this
theorem opensS_int38 : OpensS Tryz.prog 3 IntU := by
  intro H enc w base spare held fuel cs x h
  obtain ⟨n, e, _⟩ := opens_int Tryz.underlying3 H enc w base spare held fuel cs x h
  exact ⟨n, e⟩
theorem opensS_ints38 : OpensS Tryz.prog 32 (SliceS 1 IntU) := opensS_slice (n := 1) Tryz.underlying32 (by kernel_rfl) (by omega) opensS_int38

set_option maxRecDepth 100000 in
set_option maxHeartbeats 4000000 in
theorem lazyTells_walk (p : Option Addr) (n c : Nat) (l : List PaV) (q : Option Addr) (m d : Nat) (ids : List Int) (w0 : World) (h : SliceS 2 PaS (fun k => k < w0.heap.size) w0 [.slice p n c] l) (h2 : SliceS 1 IntU (fun k => k < w0.heap.size) w0 [.slice q m d] ids) :
    Calls Tryz.prog 4 #[.slice p n c, .slice q m d] w0 fun e w' => e = .returned (.bool true) ∧ Below w0.heap.size w0 w' := by
  obtain ⟨rfl, hlc, hcm⟩ := h.len
  obtain ⟨rfl, hld, hdm⟩ := h2.len
  unfold maxLen at hcm hdm
  have Haw := Lib.hid (fun w => lzAwake_any w)
  have Hl := Lib.hid h
  have Hi := Lib.hid h2
  have HF := Lib.hid (lzfar_any _ _ _ _ l w0 h)
  clear h h2
  go_enter Tryz.func4, Tryz.ntmps4
  go_wp2_with fail
  refine HF.out.mono ?_
  rintro e w1 ⟨bf, rfl, hn, hb⟩
  have HB1 := Lib.hid hb
  have Hl1 := Lib.hid (Hl.out.below PaS.still hb)
  have Hi1 := Lib.hid (Hi.out.below IntU.still hb)
  have Hn := Lib.hid hn
  clear hb hn Hl HF Hi
  cases bf with
  | true =>
    go_wp2_with fail
    refine (Haw.out _).mono ?_
    rintro e wz ⟨rfl, hb⟩
    have HBz := Lib.hid (HB1.out.trans (hb.mono HB1.out.size))
    clear hb
    go_wp2_with fail
    go_ret
    exact ⟨rfl, HBz.out⟩
  | false =>
    have hnear := Hn.out rfl
    have Hnr := Lib.hid hnear
    have Hsz := Lib.hid (fun id => lz_sizes hnear id)
    have hl40 : l.length ≤ 40 := hnear.1
    clear Hn hnear
    by_cases h60 : (60 : Int) < (ids.length : Int)
    · go_wp2_with fail
      refine (Haw.out _).mono ?_
      rintro e wz ⟨rfl, hb⟩
      have HBz := Lib.hid (HB1.out.trans (hb.mono HB1.out.size))
      clear hb
      go_wp2_with fail
      go_ret
      exact ⟨rfl, HBz.out⟩
    · have HN := Lib.hid (lzNew_any _ p _ c l w1 Hl1.out (by omega))
      have HY := Lib.hid (fun (id : Int) (w : World) (hw : Below w1.heap.size w1 w) => gbytes_any _ p _ c l id w (Hl1.out.below PaS.still hw) (by omega) (greet_short id Hnr.out))
      have HZ := Lib.hid (fun (id : Int) (w : World) (hw : Below w1.heap.size w1 w) => rgbytes_any _ p _ c l id w (Hl1.out.below PaS.still hw) (by omega) (greet_short id Hnr.out))
      simp only [lz_split] at HY HZ
      have HO := Lib.hid (fun (id : Int) (w : World) (g : Nat) (pp : Option Addr) (cp : Nat) (h : LzO w1 w g l pp cp 0 (.slice none 0 0) ∨ ∃ pa ca, LzM w1 w g l pp cp pa ca) => lzOf_any w1 w g l pp cp id Hnr.out (Hsz.out id).1 (Hsz.out id).2 h)
      have HM := Lib.hid (fun g n w0 h1 h2 => lzMade_at g n w0 h1 h2)
      unfold OfR at HO
      generalize hLL : (fun id : Int => alikeL l ++ bytesB [keyB id, idleB]) = LL at *
      simp only [show ∀ id : Int, alikeL l ++ bytesB [keyB id, idleB] = LL id from fun id => by rw [← hLL]] at HY HZ HO
      clear hLL Hsz Hnr
      go_wp2_with fail
      refine HN.out.mono ?_
      rintro e w2 ⟨g, pp, cp, rfl, ho⟩
      have Ho := Lib.hid ho
      clear ho HN
      go_wp2_with fail
      refine (HM.out g 0 w2 (.inl rfl) (Ho.out.b.cell 5)).mono ?_
      rintro e wx ⟨rfl, rfl⟩
      go_wp2_with fail
      go_loopw [27] (fun i wr => ∃ k : Nat, k ≤ ids.length ∧ i = .int .i64 k ∧ (LzO w1 wr g l pp cp 0 (.slice none 0 0) ∨ ∃ pa ca, LzM w1 wr g l pp cp pa ca) ∧ Below w1.heap.size w1 wr) (fun i _ => ids.length - (intOf i).toNat)
      case atStart => exact ⟨0, Nat.zero_le _, rfl, .inl Ho.out, Ho.out.bel⟩
      case round =>
        obtain ⟨k, hk, rfl, hst, hb⟩ := hrel
        have Hb := Lib.hid hb
        have Hst := Lib.hid hst
        clear hb hst
        by_cases hlt : k < ids.length
        · have hwk : IntKind.i64.wrap ((k : Int) + 1) = (k : Int) + 1 := by rw [IntKind.wrap_i64]; omega
          obtain ⟨b, o, cs, rfl, hS, hbl, _, hc, hq⟩ := (Hi1.out.below IntU.still Hb.out).elem (by omega) k ids[k] (List.getElem?_eq_getElem hlt)
          have c0 := hc 0 (.int .i64 ids[k]) (by rw [hq]; rfl)
          rw [Nat.add_zero, Nat.mul_one] at c0
          clear hc hq hS hbl
          generalize ids[k] = id at *
          have hlti : (k : Int) < (ids.length : Int) := by omega
          have HO1 := Lib.hid (HO.out id wr g pp cp Hst.out)
          go_wp2_with fail
          refine HO1.out.mono ?_
          rintro e w3 ⟨p3, d3, pa3, ca3, rfl, hy3, hm3⟩
          have Hm3 := Lib.hid hm3
          have Hy3 := Lib.hid hy3
          clear hy3 hm3 c0 HO1
          go_wp2_with fail
          refine (HZ.out id w3 Hm3.out.bel).mono ?_
          rintro e w4 ⟨p4, d4, rfl, ⟨hy4, -, -⟩, hb⟩
          have Hm4 := Lib.hid (Hm3.out.step hb)
          have He4 := Lib.hid (eqB_true38 (c := d3) (d := d4) (Hy3.out.below hb) hy4)
          clear hb hy4 Hy3 Hm3
          go_wp2_with fail
          refine He4.out.mono ?_
          rintro e wx ⟨rfl, rfl⟩
          have HO2 := Lib.hid (HO.out id w4 g pp cp (.inr ⟨_, _, Hm4.out⟩))
          go_wp2_with fail
          refine HO2.out.mono ?_
          rintro e w5 ⟨p5, d5, pa5, ca5, rfl, hy5, hm5⟩
          have Hm5 := Lib.hid hm5
          have Hy5 := Lib.hid hy5
          clear hy5 hm5 HO2 Hm4 He4
          go_wp2_with fail
          refine (HY.out id w5 Hm5.out.bel).mono ?_
          rintro e w6 ⟨p6, d6, rfl, ⟨hy6, -, -⟩, hb⟩
          have Hm6 := Lib.hid (Hm5.out.step hb)
          have He6 := Lib.hid (eqB_true38 (c := d5) (d := d6) (Hy5.out.below hb) hy6)
          clear hb hy6 Hy5 Hm5
          go_wp2_with fail
          refine He6.out.mono ?_
          rintro e wx ⟨rfl, rfl⟩
          go_wp2_with fail
          refine (HM.out g 1 w6 (.inr rfl) (Hm6.out.b.cell 5)).mono ?_
          rintro e wx ⟨rfl, rfl⟩
          go_wp2_with fail
          go_roundw
          case rel => exact ⟨k + 1, by omega, by go_num, .inr ⟨_, _, Hm6.out⟩, Hm6.out.bel⟩
          case measure => simp [intOf]; omega
        · obtain rfl : k = ids.length := by omega
          have HB4 := Lib.hid (HB1.out.trans (Hb.out.mono HB1.out.size))
          go_wp2_with fail
          refine (Haw.out _).mono ?_
          rintro e wz ⟨rfl, hb⟩
          have HBz := Lib.hid (HB4.out.trans (hb.mono HB4.out.size))
          clear hb
          go_wp2_with fail
          go_ret
          exact ⟨rfl, HBz.out⟩

end Go.Proofs.YthhebfknikfleaaGreat
