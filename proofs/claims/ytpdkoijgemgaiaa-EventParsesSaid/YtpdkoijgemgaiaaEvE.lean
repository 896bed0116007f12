/-
  The contracts of Put, Parse, and of the statements' own helpers (layer 42).
-/
import Derived.Test.YtpdkoijgemgaiaaEvL
namespace Go.Proofs.Ytpdkoijgemgaiaa
open Go.RowKit

/-- An event's reading. -/
def EvS : Rd EvV := fun S w cs x => ∃ p c, cs = [.int .i64 x.kind, .int .i64 x.who, .int .i64 x.n, .slice p x.bytes.length c] ∧ BytesS S w [.slice p x.bytes.length c] x.bytes

theorem EvS.still : Still EvS := by
  rintro S S' w w' cs x ⟨p, c, rfl, h⟩ hk
  exact ⟨p, c, rfl, BytesS.still _ _ _ _ _ _ h hk⟩

theorem EvS.one (S : Nat → Prop) (w : World) (cs : List Value) (x : EvV) (h : EvS S w cs x) : ∀ u ∈ cs, u.oneCell' = true := by
  obtain ⟨p, c, rfl, _⟩ := h
  intro u hu
  simp only [List.mem_cons, List.not_mem_nil, or_false] at hu
  rcases hu with rfl | rfl | rfl | rfl <;> rfl

theorem opensS_ev : OpensS Try.prog 85 EvS := by
  intro H enc w base spare held fuel cs x h
  have S : StructOf Try.prog 85 _ := ⟨Try.underlying85, by kernel_rfl, by kernel_rfl⟩
  have hl := S.len h
  match cs, hl with
  | [c0, c1, c2, c3], _ =>
    obtain ⟨y0, e0, _⟩ := S.field h 0 _ rfl c0 rfl (opens_int Try.underlying3)
    obtain ⟨y1, e1, _⟩ := S.field h 1 _ rfl c1 rfl (opens_int Try.underlying3)
    obtain ⟨y2, e2, _⟩ := S.field h 2 _ rfl c2 rfl (opens_int Try.underlying3)
    obtain ⟨y3, hy3⟩ := S.field h 3 _ rfl c3 rfl (opensS_bytes Try.underlying24 Try.underlying5 (by kernel_rfl))
    obtain ⟨p, c, e3, _⟩ := id hy3
    simp only [List.cons.injEq, and_true] at e0 e1 e2 e3
    subst e0 e1 e2 e3
    exact ⟨⟨y0, y1, y2, y3⟩, p, c, rfl, hy3⟩

theorem opensS_evs : OpensS Try.prog 58 (SliceS 4 EvS) := opensS_slice Try.underlying58 (by kernel_rfl) (by omega) opensS_ev

theorem Try.info85 : (Try.prog.info? 85).map (fun i => (i.zero, i.size, i.bytes)) = some (some (.agg #[.int .i64 0, .int .i64 0, .int .i64 0, .slice none 0 0]), 4, 48) := by kernel_rfl

theorem info_ev : ∃ i z, Try.prog.info? 85 = some i ∧ i.zero = some z ∧ i.size = 4 ∧ i.bytes = 48 ∧ z.cells.size = 4 := by
  obtain ⟨i0, hi, hz0, hz1, hz2⟩ := info_parts Try.info85
  exact ⟨i0, _, hi, hz0, hz1, hz2, rfl⟩

/-- The bytes of the first k events. -/
def putK (xs : List EvV) (k : Nat) : List UInt8 := putL (xs.take k)

theorem putK_succ (xs : List EvV) (k : Nat) (x : EvV) (h : xs[k]? = some x) : putK xs (k + 1) = putK xs k ++ codeL x := by
  have hk : k < xs.length := (List.getElem?_eq_some_iff.1 h).1
  have e : xs[k] = x := (List.getElem?_eq_some_iff.1 h).2
  unfold putK putL
  rw [List.take_succ_eq_append_getElem hk, List.map_append, List.flatten_append, e]
  simp

/-- Few events, short each. -/
def FewE (xs : List EvV) : Prop := xs.length ≤ 60 ∧ ∀ (i : Nat) (x : EvV), xs[i]? = some x → x.bytes.length ≤ 1000

theorem putK_len {xs : List EvV} (h : FewE xs) : ∀ k, k ≤ xs.length → (putK xs k).length ≤ 1010 * k
  | 0, _ => by simp [putK, putL]
  | k + 1, hk => by
    have ih := putK_len h k (by omega)
    have h1 : xs[k]? = some (xs[k]'(by omega)) := List.getElem?_eq_getElem (by omega)
    have h2 := h.2 k _ h1
    have h3 := codeL_len (xs[k]'(by omega))
    rw [putK_succ xs k _ h1, List.length_append]
    omega

theorem putK_all (xs : List EvV) : putK xs xs.length = putL xs := by unfold putK; rw [List.take_length]

set_option maxHeartbeats 1000000 in
theorem put_evs (S : Nat → Prop) (p : Option Addr) (n c : Nat) (xs : List EvV) (w : World) (h : SliceS 4 EvS S w [.slice p n c] xs) (hf : FewE xs) :
    Calls Try.prog 56 #[.slice p n c] w fun e w' => ∃ v, e = .returned v ∧ OwnBR w.heap.size w' v (putL xs) ∧ Below w.heap.size w w' := by
  have H := Lib.hid h
  obtain ⟨p', c', css, h1, hlc, hcm, _, _⟩ := h
  simp only [List.cons.injEq, Value.slice.injEq, and_true] at h1
  obtain ⟨rfl, rfl, rfl⟩ := h1
  unfold maxLen at hcm
  have Hf := Lib.hid hf
  have hn := hf.1
  clear hf
  go_enter Try.func56, Try.ntmps56
  go_wp2_with fail
  go_loopw [3, 8] (fun v i wr => ∃ k : Nat, k ≤ xs.length ∧ i = .int .i64 k ∧ OwnBR w.heap.size wr v (putK xs k) ∧ Below w.heap.size w wr) (fun _ i _ => xs.length - (intOf i).toNat)
  case atStart => exact ⟨0, Nat.zero_le _, rfl, OwnBR.empty _ _ _, Below.refl _ _⟩
  case round =>
    obtain ⟨k, hk, rfl, ho, hb⟩ := hrel
    have hbs := hb.size
    have Ho := Lib.hid ho
    have Hb := Lib.hid hb
    clear ho hb
    by_cases hlt : k < xs.length
    · obtain ⟨b, o, cs, rfl, _, hbl, _, hc, q, d, rfl, hr⟩ := H.out.elem (by omega) k xs[k] (List.getElem?_eq_getElem hlt)
      have hs := putK_succ xs k xs[k] (List.getElem?_eq_getElem hlt)
      have hx := Hf.out.2 k xs[k] (List.getElem?_eq_getElem hlt)
      have hkl := putK_len Hf.out k hk
      have hcl := codeL_len xs[k]
      have Hr := Lib.hid (hr.below Hb.out)
      have hf : ∀ j, wr.cell? ⟨b, o + k * 4 + j, none⟩ = w.cell? ⟨b, o + k * 4 + j, none⟩ := fun j => Hb.out.cell (p := ⟨b, o + k * 4 + j, none⟩) hbl
      have c0 := (hf 0).trans (hc 0 _ rfl)
      have c1 := (hf 1).trans (hc 1 _ rfl)
      have c2 := (hf 2).trans (hc 2 _ rfl)
      have c3 := (hf 3).trans (hc 3 _ rfl)
      rw [Nat.add_zero] at c0
      clear hc hf hr
      generalize xs[k] = x at c0 c1 c2 c3 hs hx hcl Hr
      obtain ⟨xk, xo, xn, xb⟩ := x
      dsimp only at c0 c1 c2 c3 hx hcl Hr
      have Hs := Lib.hid hs
      obtain ⟨_, hq1, hq2, _⟩ := Hr.out.parts
      have Hq2 := Lib.hid hq2
      clear hs hq2
      go_wp2_with fail
      have Hra := Lib.hid (Hr.out.below ((Below.refl _ _).alloc (Nat.le_refl _) (.cells #[.int .i64 xk, .int .i64 xo, .int .i64 xn, .slice q xb.length d] 85)))
      have Hba := Lib.hid (Hb.out.alloc hbs (.cells #[.int .i64 xk, .int .i64 xo, .int .i64 xn, .slice q xb.length d] 85))
      have Hoa := Lib.hid (Ho.out.alloc (.cells #[.int .i64 xk, .int .i64 xo, .int .i64 xn, .slice q xb.length d] 85))
      clear c0 c1 c2 c3
      generalize wr.alloc (.cells #[.int .i64 xk, .int .i64 xo, .int .i64 xn, .slice q xb.length d] 85) = w2 at *
      refine (evCode_any ⟨xk, xo, xn, xb⟩ q d w2 Hra.out.parts.2.2.2 hq1 Hq2.out).mono ?_
      rintro e w3 ⟨v3, rfl, ho3, hb3⟩
      obtain ⟨p3, d3, rfl, hr3⟩ := ho3.bytesS (S := fun _ => True) (fun _ _ => trivial)
      have Hr3 := Lib.hid hr3
      have Ho3 := Lib.hid (Hoa.out.below hb3)
      have Hb3 := Lib.hid (Hba.out.trans (hb3.mono Hba.out.size))
      have hbs3 := Hb3.out.size
      generalize codeL ⟨xk, xo, xn, xb⟩ = cl at *
      clear ho3 hb3 hr3
      go_wp2_with (at_builtin; refine step_appendBR _ rfl _ _ rfl w.heap.size _ _ rfl Ho3.out _ cl _ _ rfl rfl Hr3.out.parts.2.2.2 (by omega) hbs3 ?_; intro v4 w4 ho4 hg4 _; have Ho4 := Lib.hid ho4; have Hb4 := Lib.hid (Hb3.out.trans (Below.of_row hg4 hbs3 (fun k hk => (Ho3.out.row k hk).1))); clear ho4 hg4)
      go_roundw
      case rel => exact ⟨k + 1, by omega, by go_num, by rw [Hs.out]; exact Ho4.out, Hb4.out⟩
      case measure => simp [intOf]; omega
    · obtain rfl : k = xs.length := by omega
      have HA := Lib.hid (putK_all xs)
      go_wp2
      go_ret
      exact ⟨_, rfl, by rw [← HA.out]; exact Ho.out, Hb.out⟩

set_option maxHeartbeats 1000000 in
theorem putR_evs (S : Nat → Prop) (p : Option Addr) (n c : Nat) (xs : List EvV) (w : World) (h : SliceS 4 EvS S w [.slice p n c] xs) (hf : FewE xs) :
    Calls Try.prog 61 #[.slice p n c] w fun e w' => ∃ v, e = .returned v ∧ OwnBR w.heap.size w' v (putL xs) ∧ Below w.heap.size w w' := by
  have H := Lib.hid h
  obtain ⟨p', c', css, h1, hlc, hcm, _, _⟩ := h
  simp only [List.cons.injEq, Value.slice.injEq, and_true] at h1
  obtain ⟨rfl, rfl, rfl⟩ := h1
  unfold maxLen at hcm
  have Hf := Lib.hid hf
  have hn := hf.1
  clear hf
  go_enter Try.func61, Try.ntmps61
  go_wp2_with fail
  go_loopw [3, 4] (fun v i wr => ∃ k : Nat, k ≤ xs.length ∧ i = .int .i64 k ∧ OwnBR w.heap.size wr v (putK xs k) ∧ Below w.heap.size w wr) (fun _ i _ => xs.length - (intOf i).toNat)
  case atStart => exact ⟨0, Nat.zero_le _, rfl, OwnBR.empty _ _ _, Below.refl _ _⟩
  case round =>
    obtain ⟨k, hk, rfl, ho, hb⟩ := hrel
    have hbs := hb.size
    have Ho := Lib.hid ho
    have Hb := Lib.hid hb
    clear ho hb
    by_cases hlt : k < xs.length
    · obtain ⟨b, o, cs, rfl, _, hbl, _, hc, q, d, rfl, hr⟩ := H.out.elem (by omega) k xs[k] (List.getElem?_eq_getElem hlt)
      have hs := putK_succ xs k xs[k] (List.getElem?_eq_getElem hlt)
      have hx := Hf.out.2 k xs[k] (List.getElem?_eq_getElem hlt)
      have hkl := putK_len Hf.out k hk
      have hcl := codeL_len xs[k]
      have Hr := Lib.hid (hr.below Hb.out)
      have hf : ∀ j, wr.cell? ⟨b, o + k * 4 + j, none⟩ = w.cell? ⟨b, o + k * 4 + j, none⟩ := fun j => Hb.out.cell (p := ⟨b, o + k * 4 + j, none⟩) hbl
      have c0 := (hf 0).trans (hc 0 _ rfl)
      have c1 := (hf 1).trans (hc 1 _ rfl)
      have c2 := (hf 2).trans (hc 2 _ rfl)
      have c3 := (hf 3).trans (hc 3 _ rfl)
      rw [Nat.add_zero] at c0
      clear hc hf hr
      generalize xs[k] = x at c0 c1 c2 c3 hs hx hcl Hr
      obtain ⟨xk, xo, xn, xb⟩ := x
      dsimp only at c0 c1 c2 c3 hx hcl Hr
      have Hs := Lib.hid hs
      clear hs
      go_wp2_with fail
      refine (evCodeR_any ⟨xk, xo, xn, xb⟩ q d wr Hr.out.parts.2.2.2).mono ?_
      rintro e w3 ⟨v3, rfl, ho3, hb3⟩
      obtain ⟨p3, d3, rfl, hr3⟩ := ho3.bytesS (S := fun _ => True) (fun _ _ => trivial)
      have Hr3 := Lib.hid hr3
      have Ho3 := Lib.hid (Ho.out.below hb3)
      have Hb3 := Lib.hid (Hb.out.trans (hb3.mono Hb.out.size))
      have hbs3 := Hb3.out.size
      generalize codeL ⟨xk, xo, xn, xb⟩ = cl at *
      clear ho3 hb3 hr3 c0 c1 c2 c3
      go_wp2_with (at_builtin; refine step_appendBR _ rfl _ _ rfl w.heap.size _ _ rfl Ho3.out _ cl _ _ rfl rfl Hr3.out.parts.2.2.2 (by omega) hbs3 ?_; intro v4 w4 ho4 hg4 _; have Ho4 := Lib.hid ho4; have Hb4 := Lib.hid (Hb3.out.trans (Below.of_row hg4 hbs3 (fun k hk => (Ho3.out.row k hk).1))); clear ho4 hg4)
      go_roundw
      case rel => exact ⟨k + 1, by omega, by go_num, by rw [Hs.out]; exact Ho4.out, Hb4.out⟩
      case measure => simp [intOf]; omega
    · obtain rfl : k = xs.length := by omega
      have HA := Lib.hid (putK_all xs)
      go_wp2
      go_ret
      exact ⟨_, rfl, by rw [← HA.out]; exact Ho.out, Hb.out⟩

end Go.Proofs.Ytpdkoijgemgaiaa
