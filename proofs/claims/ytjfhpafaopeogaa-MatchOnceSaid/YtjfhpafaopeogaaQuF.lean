/-
  slices.IndexFunc and ContainsFunc at entries; which entries are few; queue's Skip (layer 21).
-/
import Derived.Test.YtjfhpafaopeogaaQuE
namespace Go.Proofs.Ytjfhpafaopeogaa
open Go.RowKit
set_option linter.unusedVariables false
set_option linter.unusedSimpArgs false

/-- How many stand ahead of the first one that P takes. -/
def ahead (P : EnV → Bool) (L : List EnV) : Nat := (L.takeWhile (fun x => !P x)).length

theorem ahead_le (P : EnV → Bool) : ∀ L, ahead P L ≤ L.length
  | [] => by simp [ahead]
  | x :: L => by
    have := ahead_le P L
    unfold ahead at *
    rw [List.takeWhile_cons]
    split <;> simp <;> omega
theorem ahead_go (P : EnV → Bool) : ∀ (L : List EnV) (k : Nat) (hk : k < L.length), k ≤ ahead P L → P L[k] = false → k + 1 ≤ ahead P L
  | [], k, hk, _, _ => by simp at hk
  | x :: L, 0, hk, _, h => by
    have h : P x = false := h
    unfold ahead
    rw [List.takeWhile_cons, h]
    simp
  | x :: L, k + 1, hk, hle, h => by
    unfold ahead at *
    rw [List.takeWhile_cons] at hle ⊢
    split at hle
    · rename_i hx
      rw [if_pos hx]
      have := ahead_go P L k (by simpa using hk) (by simpa [ahead] using hle) (by simpa using h)
      unfold ahead at this
      simpa using this
    · simp at hle
theorem ahead_at (P : EnV → Bool) : ∀ (L : List EnV) (k : Nat) (hk : k < L.length), k ≤ ahead P L → P L[k] = true → ahead P L = k
  | [], k, hk, _, _ => by simp at hk
  | x :: L, 0, hk, _, h => by
    have h : P x = true := h
    unfold ahead
    rw [List.takeWhile_cons, h]
    simp
  | x :: L, k + 1, hk, hle, h => by
    unfold ahead at *
    rw [List.takeWhile_cons] at hle ⊢
    split at hle
    · rename_i hx
      rw [if_pos hx]
      have := ahead_at P L k (by simpa using hk) (by simpa [ahead] using hle) (by simpa using h)
      unfold ahead at this
      simpa using this
    · simp at hle
theorem ahead_all (P : EnV → Bool) : ∀ L, ahead P L = L.length → ∀ x ∈ L, P x = false
  | [], _, x, hx => by simp at hx
  | y :: L, h, x, hx => by
    unfold ahead at h
    rw [List.takeWhile_cons] at h
    split at h
    · rename_i hy
      rcases List.mem_cons.1 hx with rfl | hx
      · simpa using hy
      · exact ahead_all P L (by simpa [ahead] using h) x hx
    · simp at h

/-- What IndexFunc answers. -/
def IdxR (P : EnV → Bool) (L : List EnV) (r : Int) : Prop := (r = (ahead P L : Nat) ∧ ahead P L < L.length) ∨ (r = -1 ∧ ahead P L = L.length)

def isSync (x : EnV) : Bool := x.kind == 8
def longE (x : EnV) : Bool := decide ((10 : Int) < (x.good.length : Int)) || (decide ((10 : Int) < (x.bad.length : Int)) || (decide ((10 : Int) < (x.cache.length : Int)) || (decide ((300 : Int) < (x.reply.length : Int)) || (decide ((300 : Int) < (x.frm.size : Int)) || decide ((300 : Int) < (x.dst.size : Int))))))

theorem isSync_any (x : EnV) (a : EnP) (w : World) : Calls Try.prog 109 #[enArg x a] w fun e w' => e = .returned (.bool (isSync x)) ∧ Below w.heap.size w w' := by
  have Hb := Lib.hid ((Below.refl w.heap.size w).alloc (Nat.le_refl _) (.cells (enArg x a).cells 52))
  have He : Hid (isSync x = (x.kind == 8)) := Lib.hid rfl
  generalize isSync x = r at *
  obtain ⟨xk, xh, xf, xd, xg, xb, xc, xr⟩ := x
  unfold enArg at *
  simp only [Value.cells] at Hb
  dsimp only at *
  go_enter Try.func109, Try.ntmps109
  go_wp2
  go_ret
  exact ⟨ret_bool He.out.symm, Hb.out⟩

set_option maxRecDepth 100000 in
set_option maxHeartbeats 2000000 in
theorem longE_any (x : EnV) (a : EnP) (w : World) : Calls Try.prog 61 #[enArg x a] w fun e w' => e = .returned (.bool (longE x)) ∧ Below w.heap.size w w' := by
  have Hb := Lib.hid ((Below.refl w.heap.size w).alloc (Nat.le_refl _) (.cells (enArg x a).cells 52))
  have He : Hid (longE x = (decide ((10 : Int) < (x.good.length : Int)) || (decide ((10 : Int) < (x.bad.length : Int)) || (decide ((10 : Int) < (x.cache.length : Int)) || (decide ((300 : Int) < (x.reply.length : Int)) || (decide ((300 : Int) < (x.frm.size : Int)) || decide ((300 : Int) < (x.dst.size : Int)))))))) := Lib.hid rfl
  generalize longE x = r at *
  obtain ⟨xk, xh, xf, xd, xg, xb, xc, xr⟩ := x
  unfold enArg at *
  simp only [Value.cells] at Hb
  dsimp only at *
  go_enter Try.func61, Try.ntmps61
  go_wp2
  all_goals
    go_ret
    refine ⟨ret_bool ?_, Hb.out⟩
    rw [He.out]
    first | (simp only [Bool.or_assoc]; done) | (simp [*]; done) | (simp; omega)

set_option maxRecDepth 100000 in
set_option maxHeartbeats 4000000 in
/-- slices.IndexFunc at entries, with (*remuda/queue.Queue).Skip$1. -/
theorem indexFunc_isSync (S : Nat → Prop) (p : Option Addr) (n c : Nat) (L : List EnV) (w : World) (h : SliceS 8 EnS S w [.slice p n c] L) :
    Calls Try.prog 102 #[.slice p n c, .func (.func 109) #[] #[]] w fun e w' => ∃ r, e = .returned (.int .i64 r) ∧ IdxR isSync L r ∧ Below w.heap.size w w' := by
  have H := Lib.hid h
  obtain ⟨rfl, hlc, hcm⟩ := h.len
  unfold maxLen at hcm
  clear h
  go_enter Try.func102, Try.ntmps102
  go_wp2_with fail
  go_loopw [5, 8] (fun _ i wr => ∃ k : Nat, k ≤ L.length ∧ i = .int .i64 k ∧ k ≤ ahead isSync L ∧ Below w.heap.size w wr) (fun _ i _ => L.length - (intOf i).toNat)
  case atStart => exact ⟨0, Nat.zero_le _, rfl, Nat.zero_le _, Below.refl _ _⟩
  case round =>
    obtain ⟨k, hk, rfl, hka, hb⟩ := hrel
    have hsz := hb.size
    have Hb := Lib.hid hb
    have Hka := Lib.hid hka
    clear hka
    by_cases hlt : k < L.length
    · obtain ⟨b, o, a, rfl, hS, hbl, hL, c0, c1, c2, c3, c4, c5, c6, c7⟩ := en_at (H.out.below EnS.still hb) hlt
      have Hgo := Lib.hid (ahead_go isSync L k hlt)
      have Hat := Lib.hid (ahead_at isSync L k hlt)
      clear hL hb hS
      generalize L[k] = x at *
      have Hc := Lib.hid (fun w0 => isSync_any x a w0)
      unfold enArg at Hc
      have hlti : (k : Int) < (L.length : Int) := by omega
      go_wp2_with fail
      refine (Hc.out _).mono ?_
      rintro e w1 ⟨rfl, hb1⟩
      have Hb1 := Lib.hid (Hb.out.trans (hb1.mono hsz))
      clear hb1
      cases hP : isSync x with
      | false =>
        have Hn := Lib.hid (Hgo.out Hka.out hP)
        clear hP
        go_wp2_with fail
        go_roundw
        case rel => exact ⟨k + 1, by omega, by go_num, Hn.out, Hb1.out⟩
        case measure => simp [intOf]; omega
      | true =>
        have Hn := Lib.hid (Hat.out Hka.out hP)
        clear hP
        go_wp2_with fail
        go_ret
        exact ⟨_, rfl, .inl ⟨by rw [Hn.out], by rw [Hn.out]; exact hlt⟩, Hb1.out⟩
    · obtain rfl : k = L.length := by omega
      have Hn := Lib.hid (Nat.le_antisymm (ahead_le isSync L) Hka.out)
      go_wp2
      go_ret
      exact ⟨_, rfl, .inr ⟨rfl, Hn.out⟩, Hb.out⟩

set_option maxRecDepth 100000 in
set_option maxHeartbeats 4000000 in
/-- slices.IndexFunc at entries, with remuda/remudaplain.Entries$1. -/
theorem indexFunc_longE (S : Nat → Prop) (p : Option Addr) (n c : Nat) (L : List EnV) (w : World) (h : SliceS 8 EnS S w [.slice p n c] L) :
    Calls Try.prog 102 #[.slice p n c, .func (.func 61) #[] #[]] w fun e w' => ∃ r, e = .returned (.int .i64 r) ∧ IdxR longE L r ∧ Below w.heap.size w w' := by
  have H := Lib.hid h
  obtain ⟨rfl, hlc, hcm⟩ := h.len
  unfold maxLen at hcm
  clear h
  go_enter Try.func102, Try.ntmps102
  go_wp2_with fail
  go_loopw [5, 8] (fun _ i wr => ∃ k : Nat, k ≤ L.length ∧ i = .int .i64 k ∧ k ≤ ahead longE L ∧ Below w.heap.size w wr) (fun _ i _ => L.length - (intOf i).toNat)
  case atStart => exact ⟨0, Nat.zero_le _, rfl, Nat.zero_le _, Below.refl _ _⟩
  case round =>
    obtain ⟨k, hk, rfl, hka, hb⟩ := hrel
    have hsz := hb.size
    have Hb := Lib.hid hb
    have Hka := Lib.hid hka
    clear hka
    by_cases hlt : k < L.length
    · obtain ⟨b, o, a, rfl, hS, hbl, hL, c0, c1, c2, c3, c4, c5, c6, c7⟩ := en_at (H.out.below EnS.still hb) hlt
      have Hgo := Lib.hid (ahead_go longE L k hlt)
      have Hat := Lib.hid (ahead_at longE L k hlt)
      clear hL hb hS
      generalize L[k] = x at *
      have Hc := Lib.hid (fun w0 => longE_any x a w0)
      unfold enArg at Hc
      have hlti : (k : Int) < (L.length : Int) := by omega
      go_wp2_with fail
      refine (Hc.out _).mono ?_
      rintro e w1 ⟨rfl, hb1⟩
      have Hb1 := Lib.hid (Hb.out.trans (hb1.mono hsz))
      clear hb1
      cases hP : longE x with
      | false =>
        have Hn := Lib.hid (Hgo.out Hka.out hP)
        clear hP
        go_wp2_with fail
        go_roundw
        case rel => exact ⟨k + 1, by omega, by go_num, Hn.out, Hb1.out⟩
        case measure => simp [intOf]; omega
      | true =>
        have Hn := Lib.hid (Hat.out Hka.out hP)
        clear hP
        go_wp2_with fail
        go_ret
        exact ⟨_, rfl, .inl ⟨by rw [Hn.out], by rw [Hn.out]; exact hlt⟩, Hb1.out⟩
    · obtain rfl : k = L.length := by omega
      have Hn := Lib.hid (Nat.le_antisymm (ahead_le longE L) Hka.out)
      go_wp2
      go_ret
      exact ⟨_, rfl, .inr ⟨rfl, Hn.out⟩, Hb.out⟩

/-- Entries are few and short. -/
def EnFew (x : EnV) : Prop := x.good.length ≤ 10 ∧ x.bad.length ≤ 10 ∧ x.cache.length ≤ 10 ∧ x.reply.length ≤ 300 ∧ x.frm.size ≤ 300 ∧ x.dst.size ≤ 300
theorem EnFew.small {x : EnV} (h : EnFew x) : EnSmall x := by
  unfold EnFew at h
  unfold EnSmall
  omega
theorem few_of {x : EnV} (h : longE x = false) : EnFew x := by
  simp only [longE, Bool.or_eq_false_iff, decide_eq_false_iff_not] at h
  unfold EnFew
  omega

/-- What Entries answers. -/
def FewR (L : List EnV) (many : Nat) (b : Bool) : Prop := b = true → L.length ≤ many ∧ ∀ x ∈ L, EnFew x

set_option maxRecDepth 100000 in
theorem containsLong (S : Nat → Prop) (p : Option Addr) (n c : Nat) (L : List EnV) (w : World) (h : SliceS 8 EnS S w [.slice p n c] L) :
    Calls Try.prog 60 #[.slice p n c, .func (.func 61) #[] #[]] w fun e w' => ∃ b, e = .returned (.bool b) ∧ (b = false → ∀ x ∈ L, EnFew x) ∧ Below w.heap.size w w' := by
  have H := Lib.hid (indexFunc_longE S p n c L w h)
  clear h
  go_enter Try.func60, Try.ntmps60
  go_wp2_with fail
  refine H.out.mono ?_
  rintro e w1 ⟨r, rfl, hr, hb⟩
  have Hb := Lib.hid hb
  clear hb
  rcases hr with ⟨rfl, hlt⟩ | ⟨rfl, he⟩
  · clear hlt
    go_wp2
    go_ret
    exact ⟨_, rfl, fun e => by simp at e, Hb.out⟩
  · have He := Lib.hid (ahead_all longE L he)
    clear he
    go_wp2
    go_ret
    exact ⟨_, rfl, fun _ x hx => few_of (He.out x hx), Hb.out⟩

set_option maxRecDepth 100000 in
theorem entries_any (S : Nat → Prop) (p : Option Addr) (n c : Nat) (L : List EnV) (many : Nat) (w : World) (h : SliceS 8 EnS S w [.slice p n c] L) :
    Calls Try.prog 15 #[.slice p n c, .int .i64 (many : Int)] w fun e w' => ∃ b, e = .returned (.bool b) ∧ FewR L many b ∧ Below w.heap.size w w' := by
  obtain ⟨rfl, hlc, hcm⟩ := h.len
  have H := Lib.hid (containsLong S p _ c L w h)
  clear h
  by_cases hl : (many : Int) < (L.length : Int)
  · go_enter Try.func15, Try.ntmps15
    go_wp2_with fail
    go_ret
    exact ⟨false, rfl, (fun e => by simp at e), Below.refl _ _⟩
  · have Hl : Hid (L.length ≤ many) := Lib.hid (by omega)
    go_enter Try.func15, Try.ntmps15
    go_wp2_with fail
    refine H.out.mono ?_
    rintro e w1 ⟨b, rfl, hb, hw⟩
    have Hw := Lib.hid hw
    have Hf : Hid (FewR L many (!b)) := Lib.hid (fun e => ⟨Hl.out, hb (by simpa using e)⟩)
    clear hb hw
    go_wp2_with fail
    go_ret
    exact ⟨_, rfl, Hf.out, Hw.out⟩

set_option maxRecDepth 100000 in
set_option maxHeartbeats 2000000 in
theorem qSkip_any (B sb : Nat) (E : Nat → Prop) (L : List EnV) (most : Nat) (v : Value) (w : World) (h : QO 126 B w sb E L most v) (hB : B ≤ w.heap.size) :
    Calls Try.prog 74 #[.pointer (some ⟨sb, 0, none⟩)] w fun e w' =>
      ∃ p v', e = .returned (.slice p (ahead isSync L) (ahead isSync L)) ∧ SliceS 8 EnS (fun j => (E j ∨ rowOf v = some j) ∧ j ≠ sb ∧ rowOf v' ≠ some j) w' [.slice p (ahead isSync L) (ahead isSync L)] (L.take (ahead isSync L)) ∧
        QO 126 B w' sb (gE E v w w') (L.drop (ahead isSync L)) most v' ∧ (∀ j, rowOf v' = some j → w.heap.size ≤ j) ∧ Touch (fun i => i = sb) w w' := by
  have h1 := h.weak (E' := fun k => E k ∧ k < w.heap.size) (fun k hk hE => ⟨hE, hk⟩) (fun e => h.noE e.1)
  have hsl := h.blk.lt
  have hnoE := h.noE
  have hno := h.no
  have hrw := h.own.row
  obtain ⟨p, c, rfl, hs⟩ := h1.slice
  have hlim : L.length ≤ 4096 := Nat.le_trans h.len h.lim
  have hc := h.blk.cell
  have Hi := Lib.hid (indexFunc_isSync _ p L.length c L w hs)
  have hn := ahead_le isSync L
  have Hcut : Hid (∀ w1, Below w.heap.size w w1 → Calls Try.prog 108 #[.pointer (some ⟨sb, 0, none⟩), .int .i64 ((ahead isSync L : Nat) : Int)] w1 fun e w' =>
      ∃ p1 v', e = .returned (.slice p1 (ahead isSync L) (ahead isSync L)) ∧ SliceS 8 EnS (fun j => (E j ∨ rowOf (.slice p L.length c) = some j) ∧ j ≠ sb ∧ rowOf v' ≠ some j) w' [.slice p1 (ahead isSync L) (ahead isSync L)] (L.take (ahead isSync L)) ∧
        QO 126 B w' sb (gE E (.slice p L.length c) w w') (L.drop (ahead isSync L)) most v' ∧ (∀ j, rowOf v' = some j → w.heap.size ≤ j) ∧ Touch (fun i => i = sb) w w') := Lib.hid (by
    intro w1 hb1
    have hz := hb1.size
    refine (qCut_any B sb _ L most _ _ w1 (h1.still hb1) hn (by omega)).mono ?_
    rintro e w' ⟨p1, v', rfl, r1, r2, r3, r4⟩
    refine ⟨p1, v', rfl, (SliceS.still EnS.still) _ _ _ _ _ _ r1 (Kept.mono w' (fun k _ hk => ⟨hk.1.imp And.left id, hk.2⟩)), r2.weak (fun k hk hE => ?_) ?_, fun j hj => by have := r3 j hj; omega, (Touch.of_below hb1).trans r4⟩
    · rcases hE with e | e | e
      · exact .inl e.1
      · exact .inr (.inl e)
      · exact .inr (.inr ⟨by omega, hk⟩)
    · rintro (e | e | e)
      · exact hnoE e
      · exact hno e
      · omega)
  clear h h1 hs hnoE hno hrw
  generalize hN : ahead isSync L = N at *
  go_enter Try.func74, Try.ntmps74
  go_wp2_with fail
  refine Hi.out.mono ?_
  rintro e w1 ⟨r, rfl, hr, hb⟩
  have hc1 : ∀ i, w1.cell? ⟨sb, i, none⟩ = (#[.slice p L.length c, .int .i64 (most : Int)] : Array Value)[i]? := fun i => (hb.cell (p := ⟨sb, i, none⟩) hsl).trans (hc i)
  have Hcw := Lib.hid (Hcut.out w1 hb)
  clear hc hb Hcut
  rcases hr with ⟨rfl, hlt⟩ | ⟨rfl, he⟩
  · rw [hN]
    have hN0 : ¬ (N : Int) < 0 := by omega
    clear hlt hN
    go_wp2_with fail
    refine Hcw.out.mono ?_
    rintro e w2 ⟨p1, v', rfl, hpost⟩
    have Hp := Lib.hid hpost
    clear hpost
    go_wp2_with fail
    go_ret
    exact ⟨p1, v', rfl, Hp.out⟩
  · have hNL : N = L.length := by rw [← hN]; exact he
    clear he
    clear hN
    subst hNL
    go_wp2_with fail
    refine Hcw.out.mono ?_
    rintro e w2 ⟨p1, v', rfl, hpost⟩
    have Hp := Lib.hid hpost
    clear hpost
    go_wp2_with fail
    go_ret
    exact ⟨p1, v', rfl, Hp.out⟩

theorem qSkip_nil (w : World) : Calls Try.prog 74 #[.pointer none] w fun e w' => e = .returned (.slice none 0 0) ∧ w = w' := by
  go_enter Try.func74, Try.ntmps74
  go_wp2
  go_ret
  exact ⟨rfl, rfl⟩

end Go.Proofs.Ytjfhpafaopeogaa
