/-
  Faults (layer 8): fields of a code, as plain laws; rows of fields; Clone, at, Get of both.
-/
import Derived.Test.YthhebfknikfleaaBaA
import Derived.Test.YthhebfknikfleaaIdxFd1
import Derived.Test.YthhebfknikfleaaIdxFd0
import Derived.Test.YthhebfknikfleaaPackD
namespace Go.Proofs.Ythhebfknikfleaa
open Go.RowKit
set_option linter.unusedVariables false
set_option linter.unusedSimpArgs false

def fP (k : Int) (f : FdV) : Bool := f.code == k
/-- Where the first field of a code stands. -/
def atF (l : List FdV) (k : Int) : Nat := aheadG (fP k) l
def hasF (l : List FdV) (k : Int) : Bool := l.any (fP k)
def getT (l : List FdV) (k : Int) : ByteArray := match l[atF l k]? with | some f => f.text | none => ⟨#[]⟩
def withF (l : List FdV) (k : Int) (t : ByteArray) : List FdV := match l[atF l k]? with | some f => l.set (atF l k) ⟨f.code, t⟩ | none => l
theorem atF_codes (l : List FdV) (k : Int) : atF l k = ((l.map FdV.code).takeWhile (fun c => !(c == k))).length := by
  unfold atF aheadG
  rw [List.takeWhile_map, List.length_map]
  rfl
theorem hasF_at (l : List FdV) (k : Int) : hasF l k = decide (atF l k < l.length) := (aheadG_any (fP k) l).symm
theorem aheadG_take {α : Type} (P : α → Bool) : ∀ (L : List α) (h : aheadG P L < L.length), P L[aheadG P L] = true
  | [], h => by simp at h
  | x :: L, h => by
    cases hx : P x with
    | true =>
      have h0 : aheadG P (x :: L) = 0 := by unfold aheadG; rw [List.takeWhile_cons, hx]; rfl
      simp only [h0, List.getElem_cons_zero, hx]
    | false =>
      have h0 : aheadG P (x :: L) = aheadG P L + 1 := by unfold aheadG; rw [List.takeWhile_cons, hx]; rfl
      simp only [h0, List.getElem_cons_succ]
      exact aheadG_take P L (by rw [h0] at h; simpa using h)
theorem atF_code {l : List FdV} {k : Int} (h : atF l k < l.length) : l[atF l k].code = k := by
  have h2 : fP k l[atF l k] = true := aheadG_take (fP k) l h
  unfold fP at h2
  simpa using h2
theorem withF_codes (l : List FdV) (k : Int) (t : ByteArray) : (withF l k t).map FdV.code = l.map FdV.code := by
  unfold withF
  split
  · rename_i f hf
    rw [List.map_set]
    apply List.ext_getElem?
    intro i
    by_cases hi : atF l k = i
    · subst hi
      have hl := (List.getElem?_eq_some_iff.1 hf).1
      rw [List.getElem?_set_self (by simpa using hl), List.getElem?_map, hf]
      rfl
    · rw [List.getElem?_set_ne hi]
  · rfl
theorem withF_len (l : List FdV) (k : Int) (t : ByteArray) : (withF l k t).length = l.length := by
  have := congrArg List.length (withF_codes l k t)
  simpa using this
theorem withF_at (l : List FdV) (k j : Int) (t : ByteArray) : atF (withF l k t) j = atF l j := by rw [atF_codes, atF_codes, withF_codes]
theorem withF_has (l : List FdV) (k j : Int) (t : ByteArray) : hasF (withF l k t) j = hasF l j := by rw [hasF_at, hasF_at, withF_at, withF_len]
theorem withF_get (l : List FdV) (k : Int) (t : ByteArray) (h : hasF l k = true) : getT (withF l k t) k = t := by
  rw [hasF_at] at h
  have hl : atF l k < l.length := by simpa using h
  unfold getT
  rw [withF_at]
  unfold withF
  rw [List.getElem?_eq_getElem hl]
  dsimp only
  rw [List.getElem?_set_self hl]
theorem withF_other (l : List FdV) (k j : Int) (t : ByteArray) (hj : ¬ j = k) : getT (withF l k t) j = getT l j := by
  by_cases hl : atF l k < l.length
  · unfold getT
    rw [withF_at]
    unfold withF
    rw [List.getElem?_eq_getElem hl]
    dsimp only
    by_cases e : atF l k = atF l j
    · exfalso
      have h1 := atF_code hl
      have h2 := atF_code (l := l) (k := j) (by rw [← e]; exact hl)
      simp only [e] at h1
      exact hj (h2.symm.trans h1)
    · rw [List.getElem?_set_ne e]
  · have hw : withF l k t = l := by
      unfold withF
      rw [List.getElem?_eq_none (by omega)]
    rw [hw]

abbrev OwnF (B : Nat) (w : World) (v : Value) (xs : List FdV) : Prop := OwnS B 48 2 FdS (fun _ => True) w v xs
theorem Try.info48 : (Try.prog.info? 48).map (fun i => (i.zero, i.size, i.bytes)) = some (some (.agg #[.int .u8 0, .string ⟨#[]⟩]), 2, 24) := by kernel_rfl
theorem info_fd : ∃ i z, Try.prog.info? 48 = some i ∧ i.zero = some z ∧ i.size = 2 ∧ i.bytes = 24 ∧ z.cells.size = 2 := by
  obtain ⟨i0, hi, hz0, hz1, hz2⟩ := info_parts Try.info48
  exact ⟨i0, _, hi, hz0, hz1, hz2, rfl⟩
theorem OwnR.frozenF {B : Nat} {e : TypeId} {size : Nat} {w : World} {v : Value} {n : Nat} {xs : List Value} (h : OwnR B e size w v n xs) (g : Nat) (hg : rowOf v = some g) (i : Nat) : w.frozen? ⟨g, i, none⟩ = false := by
  rcases h.2 with ⟨p, rfl, rfl⟩ | ⟨g', cap, cur, rfl, h0, hb, hc, h3, h4, h5, h6⟩
  · rw [rowOf_zero] at hg; cases hg
  · rw [rowOf_pos h0] at hg
    cases hg
    simp [World.frozen?, hc]
theorem OwnF.lst {B : Nat} {w : World} {v : Value} {xs : List FdV} (h : OwnF B w v xs) : ∃ p c, v = .slice p xs.length c ∧ SliceS 2 FdS (fun k => B ≤ k) w [.slice p xs.length c] xs := by
  obtain ⟨css, h1, h2⟩ := h
  obtain ⟨p, c, rfl, k1, k2, k3⟩ := h1.slice
  refine ⟨p, c, rfl, p, c, css, rfl, k1, k2, fun j u hu => ?_, h2.imp (fun _ _ hx => ⟨hx.1, FdS.flat _ _ _ _ _ _ hx.2⟩)⟩
  obtain ⟨g, rfl, hg, hB, hc⟩ := k3 j u hu
  exact ⟨g, 0, rfl, hB, by rw [Nat.zero_add]; exact hc⟩
theorem OwnF.at {B : Nat} {w : World} {v : Value} {xs : List FdV} (h : OwnF B w v xs) {k : Nat} (hk : k < xs.length) : ∃ g c, v = .slice (some ⟨g, 0, none⟩) xs.length c ∧ B ≤ g ∧ g < w.heap.size ∧ (∀ i, w.frozen? ⟨g, i, none⟩ = false) := by
  obtain ⟨css, h1, h2⟩ := h
  obtain ⟨p, c, hv, k1, k2, k3⟩ := h1.slice
  have hfl := ElemsS.flat h2
  obtain ⟨u, hu⟩ : ∃ u, css.flatten[0]? = some u := by
    cases hc : css.flatten with
    | nil => rw [hc] at hfl; simp at hfl; omega
    | cons u l => exact ⟨u, rfl⟩
  obtain ⟨g, rfl, hg, hB, hc⟩ := k3 0 u hu
  exact ⟨g, c, hv, hB, (h1.row g hg).2, fun i => h1.frozenF g hg i⟩
/-- A field's text is turned. -/
theorem setFd {S : Nat → Prop} {w : World} {b o n c k : Nat} {xs : List FdV} (h : SliceS 2 FdS S w [.slice (some ⟨b, o, none⟩) n c] xs) (hk : k < xs.length) (t : ByteArray) (ht : t.size ≤ maxLen) :
    SliceS 2 FdS S (w.setCell ⟨b, o + k * 2 + 1, none⟩ (.string t)) [.slice (some ⟨b, o, none⟩) n c] (xs.set k ⟨xs[k].code, t⟩) := by
  obtain ⟨rfl, h1, h2⟩ := h.len
  obtain ⟨b', o', hp, hS, hb, _⟩ := fd_at h hk
  simp only [Option.some.injEq, Addr.mk.injEq, and_true] at hp
  obtain ⟨rfl, rfl⟩ := hp
  obtain ⟨css, k1, k2⟩ := elems_of (n := 2) (R := FdS) (S := S) (w := w.setCell ⟨b, o + k * 2 + 1, none⟩ (.string t)) (b := b) (o := o) hS (xs.set k ⟨xs[k].code, t⟩) 0 (fun i x hx => by
    have hi : i < xs.length := by have := (List.getElem?_eq_some_iff.1 hx).1; simpa using this
    obtain ⟨b2, o2, hp2, _, _, c0, c1, hq, hq0, hq1⟩ := fd_at h hi
    simp only [Option.some.injEq, Addr.mk.injEq, and_true] at hp2
    obtain ⟨rfl, rfl⟩ := hp2
    rw [Nat.zero_add]
    by_cases hik : k = i
    · subst hik
      rw [List.getElem?_set_self hk] at hx
      cases hx
      refine ⟨[.int .u8 xs[k].code, .string t], rfl, fun j u hu => ?_, rfl, ht, hq0, hq1⟩
      match j, hu with
      | 0, hu =>
        cases hu
        rw [Nat.add_zero, World.cell?_setCell_other _ _ _ _ (fun e => by have := congrArg Addr.off e; dsimp only at this; omega)]
        exact c0
      | 1, hu =>
        cases hu
        exact World.cell?_setCell_same _ _ _ c1
    · rw [List.getElem?_set_ne hik, List.getElem?_eq_getElem hi] at hx
      cases hx
      refine ⟨[.int .u8 xs[i].code, .string xs[i].text], rfl, fun j u hu => ?_, rfl, hq, hq0, hq1⟩
      match j, hu with
      | 0, hu =>
        cases hu
        rw [Nat.add_zero, World.cell?_setCell_other _ _ _ _ (fun e => by have := congrArg Addr.off e; dsimp only at this; omega)]
        exact c0
      | 1, hu =>
        cases hu
        rw [World.cell?_setCell_other _ _ _ _ (fun e => by have := congrArg Addr.off e; dsimp only at this; omega)]
        exact c1)
  simp only [Nat.zero_mul, Nat.add_zero] at k2
  exact ⟨_, c, css, by rw [List.length_set], by rw [List.length_set]; exact h1, h2, k2, k1⟩

theorem clone_fds (S : Nat → Prop) (p : Option Addr) (m c : Nat) (xs : List FdV) (w : World) (h : SliceS 2 FdS S w [.slice p m c] xs) (hl : xs.length ≤ 100000) :
    Calls Try.prog 26 #[.slice p m c] w fun e w' => ∃ v, e = .returned v ∧ OwnF w.heap.size w' v xs ∧ Below w.heap.size w w' := by
  have q22 : ∀ (w : World) (a : Option Addr) (n c n' c' : Nat), (binOp .eql 31 (.slice a n c) (.slice none n' c')).run Try.prog w = .ok (.bool a.isNone) w :=
    fun w a n c n' c' => Lib.run_eql_slice_nil w _ _ a n c n' c' Try.underlying31
  obtain ⟨rfl, hlc, hcm⟩ := h.len
  have H := Lib.hid (SliceS.below FdS.still h ((Below.refl _ _).alloc (Nat.le_refl _) (.cells #[] 48)))
  cases p with
  | none =>
    have hx := SliceS.nilLen (by omega) h
    subst hx
    clear h
    go_enter Try.func26, Try.ntmps26
    go_wp2
    go_ret
    exact ⟨_, rfl, OwnS.empty _, Below.refl _ _⟩
  | some a =>
    unfold maxLen at hcm
    clear h
    go_enter Try.func26, Try.ntmps26
    go_wp2_with (first | (at_builtin; refine wpList_append_S _ rfl (.tmp 5) (.tmp 6) 31 31 rfl w.heap.size 48 48 2 24 Try.underlying31 Try.underlying31 info_fd FdS FdS.still FdS.one (fun _ => True) (.slice (some ⟨w.heap.size, 0, none⟩) 0 0) [] rfl (OwnS.empty _) (some a) xs.length c xs rfl (SliceS.weak FdS.still H.out (fun k _ hs => ⟨trivial, by rw [rowOf_zero]; simp⟩)) (by simp; omega) (by simp [maxLen]; omega) (by simp) ?_; intro v1 w1 ho1 hg1 _; have Ho1 := Lib.hid ho1; have Hb1 := Lib.hid (((Below.refl _ _).alloc (Nat.le_refl _) (.cells #[] 48)).trans (Below.of_row hg1 (by simp) (fun k hk => by rw [rowOf_zero] at hk; cases hk))); clear ho1 hg1))
    go_ret
    exact ⟨_, rfl, by simpa using Ho1.out, Hb1.out⟩

theorem at1_any (x : FdV) (k : Int) (g : Nat) (w : World) (hg : w.cell? ⟨g, 0, none⟩ = some (.int .u8 k)) (hlt : g < w.heap.size) :
    Calls Try.prog 81 #[.agg #[.int .u8 x.code, .string x.text], .pointer (some ⟨g, 0, none⟩)] w fun e w' => e = .returned (.bool (fP k x)) ∧ Below w.heap.size w w' := by
  have HB := Lib.hid ((Below.refl w.heap.size w).alloc (Nat.le_refl _) (.cells #[.int .u8 x.code, .string x.text] 48))
  have hg1 : (w.alloc (.cells #[.int .u8 x.code, .string x.text] 48)).cell? ⟨g, 0, none⟩ = some (.int .u8 k) := (HB.out.cell (p := ⟨g, 0, none⟩) hlt).trans hg
  have Hv : Hid (fP k x = (x.code == k)) := Lib.hid rfl
  generalize fP k x = r at *
  obtain ⟨xc, xt⟩ := x
  dsimp only at *
  by_cases h0 : xc = k
  · subst h0
    go_enter Try.func81, Try.ntmps81
    go_wp2_with fail
    go_ret
    exact ⟨ret_bool (by rw [Hv.out]; try simp), HB.out⟩
  · have h0b : (xc == k) = false := by simpa using h0
    rw [h0b] at Hv
    go_enter Try.func81, Try.ntmps81
    go_wp2_with fail
    go_ret
    exact ⟨ret_bool (by rw [Hv.out]; try first | exact h0b.symm | simp [h0]), HB.out⟩

set_option maxRecDepth 100000 in
theorem at_any (S : Nat → Prop) (p : Option Addr) (n c : Nat) (l : List FdV) (k : Int) (w : World) (h : SliceS 2 FdS S w [.slice p n c] l) :
    Calls Try.prog 50 #[.slice p n c, .int .u8 k] w fun e w' => ∃ r, e = .returned (.int .i64 r) ∧ IdxG (fP k) l r ∧ Below w.heap.size w w' := by
  have hmf : ∀ (fn : Fn) (first cap : Array Value) (w : World), (Instr.makeFunc fn first cap).run Try.prog w = .ok (.func fn first cap) w := fun _ _ _ _ => rfl
  have hbel : Below w.heap.size w (w.alloc (.cells #[.int .u8 k] 5)) := (Below.refl _ _).alloc (Nat.le_refl _) _
  have hb1 : Blk (w.alloc (.cells #[.int .u8 k] 5)) w.heap.size 5 #[.int .u8 k] := Blk.new _ _ _
  have Hb := Lib.hid (And.intro hb1 hbel)
  have H1 := Lib.hid (h.below FdS.still hbel)
  have hl1 := hb1.lt
  clear h hb1 hbel
  go_enter Try.func50, Try.ntmps50
  go_upto_region 1 with (fail)
  generalize w.alloc (.cells #[.int .u8 k] 5) = w1 at *
  have Hc := Lib.hid (indexFd1 81 (.pointer (some ⟨w.heap.size, 0, none⟩)) (fP k) S p _ c l w1 H1.out (enter_of Try.func81 (by kernel_rfl) rfl)
    (fun x w0 hb _ _ _ => at1_any x k w.heap.size w0 ((Hb.out.1.below hb hl1).cell 0) (by have := hb.size; omega)))
  go_wp2_with fail
  refine Hc.out.mono ?_
  rintro e w2 ⟨r, rfl, hr, hb⟩
  have Hr := Lib.hid hr
  have HB := Lib.hid (Hb.out.2.trans (hb.mono Hb.out.2.size))
  clear hb hr
  go_wp2_with fail
  go_ret
  exact ⟨r, rfl, Hr.out, HB.out⟩

set_option maxRecDepth 100000 in
theorem fget_any (S : Nat → Prop) (p : Option Addr) (n c : Nat) (l : List FdV) (k : Int) (w : World) (h : SliceS 2 FdS S w [.slice p n c] l) :
    Calls Try.prog 24 #[.slice p n c, .int .u8 k] w fun e w' => e = .returned (.tuple #[.string (getT l k), .bool (hasF l k)]) ∧ Below w.heap.size w w' := by
  obtain ⟨rfl, hlc, hcm⟩ := h.len
  unfold maxLen at hcm
  have H := Lib.hid h
  have Ha := Lib.hid (at_any S p _ c l k w h)
  have Hg : Hid (∀ f, l[atF l k]? = some f → getT l k = f.text) := Lib.hid (fun f hf => by unfold getT; rw [hf])
  have Hn : Hid (l[atF l k]? = none → getT l k = ⟨#[]⟩) := Lib.hid (fun hf => by unfold getT; rw [hf])
  have Hh := Lib.hid (hasF_at l k)
  clear h
  generalize getT l k = tv at *
  generalize hasF l k = hv at *
  go_enter Try.func24, Try.ntmps24
  go_wp2_with fail
  refine Ha.out.mono ?_
  rintro e w1 ⟨r, rfl, hr, hb⟩
  have HB := Lib.hid hb
  rcases hr with ⟨rfl, hlt⟩ | ⟨rfl, hlt⟩
  · have hlt' : atF l k < l.length := hlt
    obtain ⟨b, o, rfl, hS, hbl, c0, c1, _⟩ := fd_at (H.out.below FdS.still hb) hlt'
    have hg := Hg.out _ (List.getElem?_eq_getElem hlt')
    have hh := Hh.out
    rw [decide_eq_true hlt'] at hh
    subst hh
    rw [← hg] at c1
    clear hb hS hg c0
    have ha : aheadG (fP k) l = atF l k := rfl
    rw [ha]
    generalize atF l k = a at *
    clear hlt
    have hi0 : (0 : Int) ≤ (a : Int) := by omega
    have hlti : (a : Int) < (l.length : Int) := by omega
    go_wp2_with fail
    go_ret2
    exact ⟨rfl, HB.out⟩
  · have hlt' : atF l k = l.length := hlt
    have hn := Hn.out (by rw [hlt']; exact List.getElem?_eq_none (Nat.le_refl _))
    have hh := Hh.out
    rw [hlt', decide_eq_false (by omega)] at hh
    subst hh hn
    clear hb hlt hlt'
    go_wp2_with fail
    go_ret2
    exact ⟨rfl, HB.out⟩

end Go.Proofs.Ythhebfknikfleaa
