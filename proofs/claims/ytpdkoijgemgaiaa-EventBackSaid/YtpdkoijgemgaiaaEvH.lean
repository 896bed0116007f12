/-
  The statements' helpers, and the walks of EventParses and EventBack (layer 42).
-/
import Derived.Test.YtpdkoijgemgaiaaEvG
namespace Go.Proofs.Ytpdkoijgemgaiaa
open Go.RowKit

/-- What 'few' tells. -/
def FewR (xs : List EvV) (w : World) (e : Ending) (w' : World) : Prop :=
  ((e = .returned (.bool true) ∧ FewE xs) ∨ e = .returned (.bool false)) ∧ Below w.heap.size w w'

set_option maxHeartbeats 1000000 in
theorem few_evs (S : Nat → Prop) (p : Option Addr) (n c : Nat) (xs : List EvV) (w : World) (h : SliceS 4 EvS S w [.slice p n c] xs) :
    Calls Try.prog 54 #[.slice p n c] w fun e w' => FewR xs w e w' := by
  have H := Lib.hid h
  obtain ⟨p', c', css, h1, hlc, hcm, _, _⟩ := h
  simp only [List.cons.injEq, Value.slice.injEq, and_true] at h1
  obtain ⟨rfl, rfl, rfl⟩ := h1
  unfold maxLen at hcm
  go_enter Try.func54, Try.ntmps54
  go_wp2_with fail
  go_loopw [3, 4, 7] (fun _ _ i wr => ∃ k : Nat, k ≤ xs.length ∧ k ≤ 60 ∧ i = .int .i64 k ∧ Hid (∀ (j : Nat) (x : EvV), j < k → xs[j]? = some x → x.bytes.length ≤ 1000) ∧ Below w.heap.size w wr) (fun _ _ i _ => xs.length - (intOf i).toNat)
  case atStart => exact ⟨0, Nat.zero_le _, by omega, rfl, Lib.hid (fun j x hj => by omega), Below.refl _ _⟩
  case round =>
    obtain ⟨k, hk, hk60, rfl, hall, hb⟩ := hrel
    have hbs := hb.size
    have Hb := Lib.hid hb
    clear hb
    by_cases hlt : k < xs.length
    · obtain ⟨b, o, cs, rfl, _, hbl, _, hc, q, d, rfl, hr⟩ := H.out.elem (by omega) k xs[k] (List.getElem?_eq_getElem hlt)
      have hf : ∀ j, wr.cell? ⟨b, o + k * 4 + j, none⟩ = w.cell? ⟨b, o + k * 4 + j, none⟩ := fun j => Hb.out.cell (p := ⟨b, o + k * 4 + j, none⟩) hbl
      have c0 := (hf 0).trans (hc 0 _ rfl)
      have c1 := (hf 1).trans (hc 1 _ rfl)
      have c2 := (hf 2).trans (hc 2 _ rfl)
      have c3 := (hf 3).trans (hc 3 _ rfl)
      rw [Nat.add_zero] at c0
      have Hx := Lib.hid (List.getElem?_eq_getElem hlt)
      obtain ⟨_, hq1, hq2, _⟩ := hr.parts
      unfold maxLen at hq2
      clear hc hf hr
      generalize xs[k] = x at c0 c1 c2 c3 hq1 Hx
      have Hnew : Hid (x.bytes.length ≤ 1000 → ∀ (j : Nat) (y : EvV), j < k + 1 → xs[j]? = some y → y.bytes.length ≤ 1000) := Lib.hid (fun hx j y hj hy => by
        by_cases e : j = k
        · subst e
          rw [Hx.out] at hy
          cases hy
          exact hx
        · exact hall.out j y (by omega) hy)
      obtain ⟨xk, xo, xn, xb⟩ := x
      dsimp only at c0 c1 c2 c3 hq1 Hnew
      have Hba : Hid (Below w.heap.size w (wr.alloc (.cells #[.int .i64 xk, .int .i64 xo, .int .i64 xn, .slice q xb.length d] 85))) := Lib.hid (Hb.out.alloc hbs _)
      by_cases h60 : 60 ≤ k
      · go_wp2
        go_ret
        exact ⟨.inr rfl, Hba.out⟩
      · by_cases hbl2 : xb.length ≤ 1000
        · go_wp2
          go_roundw
          case rel => exact ⟨k + 1, by omega, by omega, by go_num, Lib.hid (Hnew.out hbl2), Hba.out⟩
          case measure => simp [intOf]; omega
        · have hbl3 : 1000 < xb.length := by omega
          go_wp2
          go_ret
          exact ⟨.inr rfl, Hba.out⟩
    · obtain rfl : k = xs.length := by omega
      go_wp2
      go_ret
      exact ⟨.inl ⟨rfl, hk60, fun j x hx => hall.out j x (List.getElem?_eq_some_iff.1 hx).1 hx⟩, Hb.out⟩

theorem awCode : codeL ⟨2, 1, 0, []⟩ = [2, 1, 0, 0, 0, 0, 0, 0] := by decide +kernel
theorem awParse : (parseL [2, 1, 0, 0, 0, 0, 0, 0, 1]).length = 1 := by decide +kernel
theorem awLit8 : (#[.int .u8 2, .int .u8 1, .int .u8 0, .int .u8 0, .int .u8 0, .int .u8 0, .int .u8 0, .int .u8 0] : Array Value).toList = bytesV [2, 1, 0, 0, 0, 0, 0, 0] := by simp [bytesV, byteV]
theorem awLit9 : (#[.int .u8 2, .int .u8 1, .int .u8 0, .int .u8 0, .int .u8 0, .int .u8 0, .int .u8 0, .int .u8 0, .int .u8 1] : Array Value).toList = bytesV [2, 1, 0, 0, 0, 0, 0, 0, 1] := by simp [bytesV, byteV]

set_option maxRecDepth 100000 in
set_option maxHeartbeats 1000000 in
theorem evAwake (w : World) : Calls Try.prog 37 #[] w fun e w' => e = .returned (.bool true) ∧ Below w.heap.size w w' := by
  have hcode := evCode_any ⟨2, 1, 0, []⟩ none 0 w (BytesIn.nil _ _) (by simp) (by simp [maxLen])
  unfold evArg at hcode
  rw [awCode] at hcode
  have Hcode := Lib.hid hcode
  clear hcode
  go_enter Try.func37, Try.ntmps37
  go_wp2_with fail
  refine Hcode.out.mono ?_
  rintro e w1 ⟨v1, rfl, ho1, hb1⟩
  obtain ⟨p1, c1, rfl, _, _, hi1, _⟩ := ho1.slice
  have Hi1 := Lib.hid (hi1.alloc (.cells #[.int .u8 2, .int .u8 1, .int .u8 0, .int .u8 0, .int .u8 0, .int .u8 0, .int .u8 0, .int .u8 0] 5))
  have Hi2 := Lib.hid (BytesIn.newB w1 [2, 1, 0, 0, 0, 0, 0, 0] _ 5 awLit8)
  have Hb1 := Lib.hid (hb1.alloc hb1.size (.cells #[.int .u8 2, .int .u8 1, .int .u8 0, .int .u8 0, .int .u8 0, .int .u8 0, .int .u8 0, .int .u8 0] 5))
  clear ho1 hb1 hi1
  go_wp2_with fail
  generalize w1.alloc (.cells #[.int .u8 2, .int .u8 1, .int .u8 0, .int .u8 0, .int .u8 0, .int .u8 0, .int .u8 0, .int .u8 0] 5) = w2 at *
  refine (equal_any _ _ [2, 1, 0, 0, 0, 0, 0, 0] [2, 1, 0, 0, 0, 0, 0, 0] _ _ _ Hi1.out Hi2.out).mono ?_
  rintro e w3 ⟨rfl, rfl⟩
  rw [beq_self_eq_true]
  have Hi3 := Lib.hid (BytesS.of (S := fun _ => True) (c := 9) (Nat.le_refl _) (by simp [maxLen]) (BytesIn.newB w2 [2, 1, 0, 0, 0, 0, 0, 0, 1] _ 5 awLit9) (fun _ _ _ => trivial))
  have Hb2 := Lib.hid (Hb1.out.alloc Hb1.out.size (.cells #[.int .u8 2, .int .u8 1, .int .u8 0, .int .u8 0, .int .u8 0, .int .u8 0, .int .u8 0, .int .u8 0, .int .u8 1] 5))
  go_wp2_with fail
  generalize w2.alloc (.cells #[.int .u8 2, .int .u8 1, .int .u8 0, .int .u8 0, .int .u8 0, .int .u8 0, .int .u8 0, .int .u8 0, .int .u8 1] 5) = w3 at *
  refine (parse_any _ _ [2, 1, 0, 0, 0, 0, 0, 0, 1] 9 _ Hi3.out (by simp)).mono ?_
  rintro e w4 ⟨v4, rfl, ho4, hb4⟩
  have Hb4 := Lib.hid (Hb2.out.trans (hb4.mono Hb2.out.size))
  obtain ⟨p4, c4, rfl, _⟩ := ho4.slice EvS.still (S' := fun _ => True) (fun _ _ _ => trivial) (fun _ _ => trivial)
  rw [awParse]
  clear ho4 hb4
  go_wp2
  go_ret
  exact ⟨rfl, Hb4.out⟩

/-- How a statement ends. -/
theorem below_chain {w w1 w2 : World} (h : Below w.heap.size w w1) (k : Below w1.heap.size w1 w2) : Below w.heap.size w w2 := h.trans (k.mono h.size)

set_option maxRecDepth 100000 in
set_option maxHeartbeats 1000000 in
theorem eventParses_walk (p : Option Addr) (l : List UInt8) (c : Nat) (w : World) (hx : BytesS (fun k => k < w.heap.size) w [.slice p l.length c] l) :
    Calls Try.prog 8 #[.slice p l.length c] w fun e w' => e = .returned (.bool true) ∧ Below w.heap.size w w' := by
  obtain ⟨-, hlc, hcm, _⟩ := hx.parts
  have Hx := Lib.hid hx
  unfold maxLen at hcm
  clear hx
  by_cases hbig : 3000 < l.length
  · go_enter Try.func8, Try.ntmps8
    go_wp2_with fail
    refine (evAwake _).mono ?_
    rintro e w1 ⟨rfl, hb1⟩
    have Hb1 := Lib.hid hb1
    clear hb1
    go_wp2
    go_ret
    exact ⟨rfl, Hb1.out⟩
  · have hl : l.length ≤ 3000 := by omega
    go_enter Try.func8, Try.ntmps8
    go_wp2_with fail
    refine (parse_any _ p l c w Hx.out (by omega)).mono ?_
    rintro e w1 ⟨v1, rfl, ho1, hb1⟩
    obtain ⟨p1, c1, rfl, hs1⟩ := ho1.slice EvS.still (S' := fun _ => True) (fun _ _ _ => trivial) (fun _ _ => trivial)
    have Hs1 := Lib.hid hs1
    have Hx1 := Lib.hid (Hx.out.below hb1)
    have Hb1 := Lib.hid hb1
    clear ho1 hb1 hs1
    go_wp2_with fail
    refine (parseR_any _ p l c w1 Hx1.out (by omega)).mono ?_
    rintro e w2 ⟨v2, rfl, ho2, hb2⟩
    obtain ⟨p2, c2, rfl, hs2⟩ := ho2.slice EvS.still (S' := fun _ => True) (fun _ _ _ => trivial) (fun _ _ => trivial)
    have Hs2 := Lib.hid hs2
    have Hs1' := Lib.hid ((SliceS.still EvS.still) _ _ _ _ _ _ Hs1.out (Kept.all hb2))
    have Hb2 := Lib.hid (below_chain Hb1.out hb2)
    clear ho2 hb2 hs2
    go_wp2_with fail
    refine (same_evs _ _ _ _ _ _ _ _ _ _ Hs1'.out Hs2.out).mono ?_
    rintro e w3 ⟨rfl, hb3⟩
    have Hb3 := Lib.hid (below_chain Hb2.out hb3)
    clear hb3
    go_wp2_with fail
    refine (evAwake _).mono ?_
    rintro e w4 ⟨rfl, hb4⟩
    have Hb4 := Lib.hid (below_chain Hb3.out hb4)
    clear hb4
    go_wp2
    go_ret
    exact ⟨rfl, Hb4.out⟩

theorem putL_len {xs : List EvV} (h : FewE xs) : (putL xs).length ≤ 60600 := by
  have h1 := putK_len h xs.length (Nat.le_refl _)
  have h2 := h.1
  rw [putK_all] at h1
  omega

/-- Those of the first k that may be. -/
def okK (xs : List EvV) (k : Nat) : List EvV := (xs.take k).filter (fun x => evOk x.kind x.who x.n x.bytes.length)

theorem okK_yes {xs : List EvV} {k : Nat} {x : EvV} (h : xs[k]? = some x) (hx : evOk x.kind x.who x.n x.bytes.length = true) : okK xs (k + 1) = okK xs k ++ [x] := by
  have hk : k < xs.length := (List.getElem?_eq_some_iff.1 h).1
  have e : xs[k] = x := (List.getElem?_eq_some_iff.1 h).2
  unfold okK
  rw [List.take_succ_eq_append_getElem hk, List.filter_append, e]
  simp [hx]
theorem okK_no {xs : List EvV} {k : Nat} {x : EvV} (h : xs[k]? = some x) (hx : evOk x.kind x.who x.n x.bytes.length = false) : okK xs (k + 1) = okK xs k := by
  have hk : k < xs.length := (List.getElem?_eq_some_iff.1 h).1
  have e : xs[k] = x := (List.getElem?_eq_some_iff.1 h).2
  unfold okK
  rw [List.take_succ_eq_append_getElem hk, List.filter_append, e]
  simp [hx]
theorem okK_len (xs : List EvV) (k : Nat) : (okK xs k).length ≤ k := by
  unfold okK
  exact Nat.le_trans (List.length_filter_le _ _) (by rw [List.length_take]; omega)
theorem okK_all (xs : List EvV) : okK xs xs.length = parseL (putL xs) := by
  unfold okK
  rw [List.take_length, parseL_put]

set_option maxRecDepth 100000 in
set_option maxHeartbeats 4000000 in
theorem eventBack_walk (p : Option Addr) (n c : Nat) (xs : List EvV) (w : World) (hx : SliceS 4 EvS (fun k => k < w.heap.size) w [.slice p n c] xs) :
    Calls Try.prog 11 #[.slice p n c] w fun e w' => e = .returned (.bool true) ∧ Below w.heap.size w w' := by
  have Hx := Lib.hid hx
  obtain ⟨p', c', css, h1, hlc, hcm, _, _⟩ := hx
  simp only [List.cons.injEq, Value.slice.injEq, and_true] at h1
  obtain ⟨rfl, rfl, rfl⟩ := h1
  unfold maxLen at hcm
  go_enter Try.func11, Try.ntmps11
  go_wp2_with fail
  refine (few_evs _ p _ c xs w Hx.out).mono ?_
  rintro e w1 ⟨hf, hb1⟩
  have Hb1 := Lib.hid hb1
  have hs1 := hb1.size
  rcases hf with ⟨rfl, hfew⟩ | rfl
  · have Hf := Lib.hid hfew
    have hn := hfew.1
    clear hfew
    go_wp2_with fail
    go_loopw [3, 5, 12] (fun v _ i wr => ∃ k : Nat, k ≤ xs.length ∧ i = .int .i64 k ∧ OwnE w.heap.size wr v (okK xs k) ∧ Below w.heap.size w wr) (fun _ _ i _ => xs.length - (intOf i).toNat)
    case atStart => exact ⟨0, Nat.zero_le _, rfl, OwnS.empty _, Hb1.out⟩
    case round =>
      clear Hb1 hb1 hs1
      obtain ⟨k, hk, rfl, ho, hb⟩ := hrel
      have hbs := hb.size
      have Ho := Lib.hid ho
      have Hb := Lib.hid hb
      by_cases hlt : k < xs.length
      · obtain ⟨b, o, cs, rfl, _, hbl, _, hc, q, d, rfl, hr⟩ := Hx.out.elem (by omega) k xs[k] (List.getElem?_eq_getElem hlt)
        have hf : ∀ j, wr.cell? ⟨b, o + k * 4 + j, none⟩ = w.cell? ⟨b, o + k * 4 + j, none⟩ := fun j => Hb.out.cell (p := ⟨b, o + k * 4 + j, none⟩) hbl
        have c0 := (hf 0).trans (hc 0 _ rfl)
        have c1 := (hf 1).trans (hc 1 _ rfl)
        have c2 := (hf 2).trans (hc 2 _ rfl)
        have c3 := (hf 3).trans (hc 3 _ rfl)
        rw [Nat.add_zero] at c0
        have Hget := Lib.hid (List.getElem?_eq_getElem hlt)
        have Hr := Lib.hid (hr.below Hb.out)
        have hol := okK_len xs k
        clear hc hf hr ho hb
        generalize xs[k] = x at c0 c1 c2 c3 Hget Hr
        obtain ⟨xk, xo, xn, xb⟩ := x
        dsimp only at c0 c1 c2 c3 Hr
        have hal : Below wr.heap.size wr (wr.alloc (.cells #[.int .i64 xk, .int .i64 xo, .int .i64 xn, .slice q xb.length d] 85)) := (Below.refl _ _).alloc (Nat.le_refl _) _
        have Ha := Lib.hid hal
        have Hv := Lib.hid (Blk.new wr 85 #[.int .i64 xk, .int .i64 xo, .int .i64 xn, .slice q xb.length d])
        have hsa : (wr.alloc (.cells #[.int .i64 xk, .int .i64 xo, .int .i64 xn, .slice q xb.length d] 85)).heap.size = wr.heap.size + 1 := by simp
        have Hsa := Lib.hid hsa
        clear hal hsa
        go_wp2_with fail
        clear c0 c1 c2 c3
        generalize wr.alloc (.cells #[.int .i64 xk, .int .i64 xo, .int .i64 xn, .slice q xb.length d] 85) = w2 at *
        refine (evCheck_any _ _ _ _ _ _ _).mono ?_
        rintro e w3 ⟨rfl, hb3⟩
        have h13 := Ha.out.trans (hb3.mono Ha.out.size)
        have Hv3 := Lib.hid (Hv.out.below hb3 Hv.out.lt)
        have hv3 := Hv3.out.cell
        have hvl := Hv3.out.lt
        have Ho3 := Lib.hid (Ho.out.below EvS.still h13)
        have Hb3 := Lib.hid (Hb.out.trans (h13.mono hbs))
        have Hr3 := Lib.hid (Hr.out.below h13)
        have hs3 := h13.size
        clear hb3 h13 Hv Ha
        by_cases hok : evOk xk xo xn xb.length = true
        · rw [hok]
          have Hk := Lib.hid (okK_yes Hget.out hok)
          have Hn := Lib.hid (new1E (x := ⟨xk, xo, xn, xb⟩) Ho3.out (Nat.le_refl _) (Hr3.out.weak (S' := fun k => w3.heap.size ≤ k ∨ k < w.heap.size) (fun k _ h => .inr h)))
          have hal3 : Below w3.heap.size w3 (w3.alloc (.cells #[.int .i64 xk, .int .i64 xo, .int .i64 xn, .slice q xb.length d] 85)) := (Below.refl _ _).alloc (Nat.le_refl _) _
          have Ho4 := Lib.hid (Ho3.out.below EvS.still hal3)
          have Hb4 := Lib.hid (below_chain Hb3.out hal3)
          clear hok hal3
          go_wp2_with (at_builtin; refine step_appendE _ rfl (.tmp 18) (.tmp 20) rfl w.heap.size u3 _ rfl Ho4.out (some ⟨w3.heap.size, 0, none⟩) ⟨xk, xo, xn, xb⟩ rfl Hn.out (by omega) Hb4.out.size ?_; intro v5 w5 ho5 hg5 hn5; have Ho5 := Lib.hid ho5; have Hb5 := Lib.hid (Hb4.out.trans (Below.of_row hg5 Hb4.out.size (fun k hk => (Ho4.out.row k hk).1))); clear ho5 hg5 hn5)
          go_roundw
          case rel => exact ⟨k + 1, by omega, by go_num, by rw [Hk.out]; exact Ho5.out, Hb5.out⟩
          case measure => simp [intOf]; omega
        · have hok' : evOk xk xo xn xb.length = false := by simpa using hok
          rw [hok']
          have Hk := Lib.hid (okK_no Hget.out hok')
          clear hok hok'
          go_wp2
          go_roundw
          case rel => exact ⟨k + 1, by omega, by go_num, by rw [Hk.out]; exact Ho3.out, Hb3.out⟩
          case measure => simp [intOf]; omega
      · obtain rfl : k = xs.length := by omega
        rw [okK_all] at ho
        have HO := Lib.hid ho
        obtain ⟨pv, cv, rfl, _⟩ := ho.slice EvS.still (S' := fun _ => True) (fun _ _ _ => trivial) (fun _ _ => trivial)
        have Hxr := Lib.hid ((SliceS.still EvS.still) _ _ _ _ _ _ Hx.out (Kept.all Hb.out))
        have hpl := putL_len Hf.out
        clear ho hb Ho
        go_wp2_with fail
        refine (put_evs _ _ _ _ xs wr Hxr.out Hf.out).mono ?_
        rintro e w2 ⟨v2, rfl, ho2, hb2⟩
        obtain ⟨p2, c2, rfl, hr2⟩ := ho2.bytesS (S := fun _ => True) (fun _ _ => trivial)
        have Hr2 := Lib.hid hr2
        have HO2 := Lib.hid (HO.out.below EvS.still hb2)
        have Hb2 := Lib.hid (below_chain Hb.out hb2)
        clear ho2 hb2 hr2
        go_wp2_with fail
        refine (parse_any _ _ _ _ w2 Hr2.out (by omega)).mono ?_
        rintro e w3 ⟨v3, rfl, ho3, hb3⟩
        obtain ⟨p3, c3, rfl, hs3⟩ := ho3.slice EvS.still (S' := fun _ => True) (fun _ _ _ => trivial) (fun _ _ => trivial)
        have Hs3 := Lib.hid hs3
        obtain ⟨p4, c4, e4, hs4⟩ := (HO2.out.below EvS.still hb3).slice EvS.still (S' := fun _ => True) (fun _ _ _ => trivial) (fun _ _ => trivial)
        simp only [Value.slice.injEq] at e4
        obtain ⟨rfl, -, rfl⟩ := e4
        have Hs4 := Lib.hid hs4
        have Hb3 := Lib.hid (below_chain Hb2.out hb3)
        clear ho3 hb3 hs3 hs4
        generalize parseL (putL xs) = ys at *
        go_wp2_with fail
        refine (same_evs _ _ _ _ _ _ _ _ _ _ Hs3.out Hs4.out).mono ?_
        rintro e w5 ⟨rfl, hb5⟩
        have Hb5 := Lib.hid (below_chain Hb3.out hb5)
        clear hb5
        go_wp2_with fail
        refine (evAwake _).mono ?_
        rintro e w6 ⟨rfl, hb6⟩
        have Hb6 := Lib.hid (below_chain Hb5.out hb6)
        clear hb6
        go_wp2
        go_ret
        exact ⟨rfl, Hb6.out⟩
  · clear hb1 hs1
    go_wp2_with fail
    refine (evAwake _).mono ?_
    rintro e w4 ⟨rfl, hb4⟩
    have Hb4 := Lib.hid (below_chain Hb1.out hb4)
    clear hb4
    go_wp2
    go_ret
    exact ⟨rfl, Hb4.out⟩

end Go.Proofs.Ytpdkoijgemgaiaa
