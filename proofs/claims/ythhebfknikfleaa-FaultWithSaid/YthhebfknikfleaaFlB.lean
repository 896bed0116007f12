/-
  Faults (layer 8): With of both, the document's Get; Make of both.
-/
import Derived.Test.YthhebfknikfleaaFlA
namespace Go.Proofs.Ythhebfknikfleaa
open Go.RowKit
set_option linter.unusedVariables false
set_option linter.unusedSimpArgs false

theorem withF_found {l : List FdV} {k : Int} (t : ByteArray) (h : atF l k < l.length) : withF l k t = l.set (atF l k) ⟨l[atF l k].code, t⟩ := by
  unfold withF
  rw [List.getElem?_eq_getElem h]
theorem withF_none {l : List FdV} {k : Int} (t : ByteArray) (h : atF l k = l.length) : withF l k t = l := by
  unfold withF
  rw [List.getElem?_eq_none (by omega)]

set_option maxRecDepth 100000 in
set_option maxHeartbeats 1000000 in
theorem with_any (S : Nat → Prop) (p : Option Addr) (n c : Nat) (l : List FdV) (k : Int) (t : ByteArray) (w : World) (h : SliceS 2 FdS S w [.slice p n c] l) (hl : l.length ≤ 100000) (ht : t.size ≤ maxLen) :
    Calls Try.prog 23 #[.slice p n c, .int .u8 k, .string t] w fun e w' => ∃ p c, e = .returned (.slice p l.length c) ∧ SliceS 2 FdS (fun j => w.heap.size ≤ j) w' [.slice p l.length c] (withF l k t) ∧ Below w.heap.size w w' := by
  obtain ⟨rfl, hlc, hcm⟩ := h.len
  have Hc := Lib.hid (clone_fds S p _ c l w h hl)
  have Ht := Lib.hid ht
  have Hwf := Lib.hid (fun h => withF_found (l := l) (k := k) t h)
  have Hwn := Lib.hid (fun h => withF_none (l := l) (k := k) t h)
  clear h ht hlc hcm
  generalize withF l k t = res at *
  go_enter Try.func23, Try.ntmps23
  go_wp2_with fail
  refine Hc.out.mono ?_
  rintro e w1 ⟨v1, rfl, ho, hb⟩
  obtain ⟨p1, c1, hv1, hs1⟩ := ho.lst
  have Ho := Lib.hid ho
  have HB := Lib.hid hb
  have hcm1 := hs1.len.2.2
  have hlc1 := hs1.len.2.1
  unfold maxLen at hcm1
  have Hs1 := Lib.hid hs1
  subst hv1
  have Ha := Lib.hid (at_any _ p1 _ c1 l k w1 hs1)
  clear ho hb hs1 Hc
  go_wp2_with fail
  refine Ha.out.mono ?_
  rintro e w2 ⟨r, rfl, hr, hb⟩
  have Ho2 := Lib.hid (OwnS.below' FdS.still Ho.out hb)
  have Hs2 := Lib.hid (Hs1.out.below FdS.still hb)
  have HB2 := Lib.hid (HB.out.trans (hb.mono HB.out.size))
  clear hb Ha
  rcases hr with ⟨rfl, hlt⟩ | ⟨rfl, hlt⟩
  · have hlt' : atF l k < l.length := hlt
    obtain ⟨g, cg, hv, hBg, hgl, hfr⟩ := OwnF.at Ho2.out hlt'
    simp only [Value.slice.injEq, true_and] at hv
    obtain ⟨rfl, rfl⟩ := hv
    obtain ⟨b, o, hp, _, _, c0, c1', _⟩ := fd_at Hs2.out hlt'
    simp only [Option.some.injEq, Addr.mk.injEq, and_true] at hp
    obtain ⟨rfl, rfl⟩ := hp
    have Hse := Lib.hid (setFd Hs2.out hlt' t Ht.out)
    rw [← Hwf.out hlt'] at Hse
    simp only [Nat.zero_add] at Hse c1'
    have ha : aheadG (fP k) l = atF l k := rfl
    rw [ha]
    clear c0
    have HB3 := Lib.hid (HB2.out.setCell (p := ⟨g, atF l k * 2 + 1, none⟩) hBg (.string t))
    generalize l[atF l k] = f at *
    obtain ⟨a, haa⟩ : ∃ a, atF l k = a := ⟨_, rfl⟩
    rw [haa] at Hse c1' HB3 hlt' ⊢
    clear haa hlt ha
    have hi0 : (0 : Int) ≤ (a : Int) := by omega
    have hlti : (a : Int) < (l.length : Int) := by omega
    go_wp2_with fail
    go_ret
    exact ⟨_, _, rfl, Hse.out, HB3.out⟩
  · have hlt' : atF l k = l.length := hlt
    have hres := Hwn.out hlt'
    subst hres
    clear hlt hlt'
    go_wp2_with fail
    go_ret
    exact ⟨_, _, rfl, Hs2.out, HB2.out⟩

set_option maxRecDepth 100000 in
set_option maxHeartbeats 1000000 in
theorem rfget_any (S : Nat → Prop) (p : Option Addr) (n c : Nat) (l : List FdV) (k : Int) (w : World) (h : SliceS 2 FdS S w [.slice p n c] l) :
    Calls Try.prog 25 #[.slice p n c, .int .u8 k] w fun e w' => e = .returned (.tuple #[.string (getT l k), .bool (hasF l k)]) ∧ w = w' := by
  obtain ⟨rfl, hlc, hcm⟩ := h.len
  unfold maxLen at hcm
  have H := Lib.hid h
  have Hg : Hid (∀ j (hj : j < l.length), atF l k = j → getT l k = l[j].text ∧ hasF l k = true) := Lib.hid (fun j hj e => by subst e; exact ⟨by unfold getT; rw [List.getElem?_eq_getElem hj], by rw [hasF_at, decide_eq_true hj]⟩)
  have Hn : Hid (atF l k = l.length → getT l k = ⟨#[]⟩ ∧ hasF l k = false) := Lib.hid (fun e => ⟨by unfold getT; rw [List.getElem?_eq_none (by omega)], by rw [hasF_at, decide_eq_false (by omega)]⟩)
  have Hle : Hid (atF l k ≤ l.length) := Lib.hid (aheadG_le _ _)
  have Hgo : Hid (∀ j (hj : j < l.length), j ≤ atF l k → (l[j].code == k) = false → j + 1 ≤ atF l k) := Lib.hid (fun j hj hle hc => aheadG_go (fP k) l j hj hle hc)
  have Hat : Hid (∀ j (hj : j < l.length), j ≤ atF l k → (l[j].code == k) = true → atF l k = j) := Lib.hid (fun j hj hle hc => aheadG_at (fP k) l j hj hle hc)
  clear h
  generalize getT l k = tv at *
  generalize hasF l k = hv at *
  generalize atF l k = av at *
  go_enter Try.func25, Try.ntmps25
  go_wp2_with fail
  go_loopw [6] (fun i wr => ∃ j : Nat, j ≤ l.length ∧ i = .int .i64 j ∧ j ≤ av ∧ wr = w) (fun i _ => l.length - (intOf i).toNat)
  case atStart => exact ⟨0, Nat.zero_le _, rfl, Nat.zero_le _, rfl⟩
  case round =>
    obtain ⟨j, hj, rfl, hja, rfl⟩ := hrel
    have Hja := Lib.hid hja
    clear hja
    by_cases hlt : j < l.length
    · obtain ⟨b, o, rfl, hS, hbl, c0, c1, _⟩ := fd_at H.out hlt
      have Hg1 := Lib.hid (fun e => Hg.out j hlt e)
      have Hgo1 := Lib.hid (fun e => Hgo.out j hlt Hja.out e)
      have Hat1 := Lib.hid (fun e => Hat.out j hlt Hja.out e)
      clear hS hbl
      generalize l[j] = x at *
      obtain ⟨xc, xt⟩ := x
      dsimp only at *
      have hlti : (j : Int) < (l.length : Int) := by omega
      by_cases h0 : xc = k
      · have hg := Hg1.out (Hat1.out (by simpa using h0))
        obtain ⟨rfl, rfl⟩ := hg
        subst h0
        go_wp2_with fail
        go_ret2
        exact ⟨rfl, rfl⟩
      · have h0b : (xc == k) = false := by simpa using h0
        have Hn1 := Lib.hid (Hgo1.out h0b)
        go_wp2_with fail
        go_roundw
        case rel => exact ⟨j + 1, by omega, by go_num, Hn1.out, by first | rfl | trivial⟩
        case measure => simp [intOf]; omega
    · obtain rfl : j = l.length := by omega
      obtain ⟨h1, h2⟩ := Hn.out (Nat.le_antisymm Hle.out Hja.out)
      subst h1 h2
      go_wp2_with fail
      go_ret2
      exact ⟨rfl, rfl⟩

set_option maxRecDepth 100000 in
set_option maxHeartbeats 1000000 in
theorem rwith_any (S : Nat → Prop) (p : Option Addr) (n c : Nat) (l : List FdV) (k : Int) (t : ByteArray) (w : World) (h : SliceS 2 FdS S w [.slice p n c] l) (hl : l.length ≤ 100000) (ht : t.size ≤ maxLen) :
    Calls Try.prog 28 #[.slice p n c, .int .u8 k, .string t] w fun e w' => ∃ p c, e = .returned (.slice p l.length c) ∧ SliceS 2 FdS (fun j => w.heap.size ≤ j) w' [.slice p l.length c] (withF l k t) ∧ Below w.heap.size w w' := by
  obtain ⟨rfl, hlc, hcm⟩ := h.len
  unfold maxLen at hcm
  have H := Lib.hid h
  have Ht := Lib.hid ht
  have Hwf : Hid (∀ j (hj : j < l.length), atF l k = j → withF l k t = l.set j ⟨l[j].code, t⟩) := Lib.hid (fun j hj e => by subst e; exact withF_found t hj)
  have Hwn := Lib.hid (fun h => withF_none (l := l) (k := k) t h)
  have Hle : Hid (atF l k ≤ l.length) := Lib.hid (aheadG_le _ _)
  have Hgo : Hid (∀ j (hj : j < l.length), j ≤ atF l k → (l[j].code == k) = false → j + 1 ≤ atF l k) := Lib.hid (fun j hj hle hc => aheadG_go (fP k) l j hj hle hc)
  have Hat : Hid (∀ j (hj : j < l.length), j ≤ atF l k → (l[j].code == k) = true → atF l k = j) := Lib.hid (fun j hj hle hc => aheadG_at (fP k) l j hj hle hc)
  clear h ht
  generalize withF l k t = res at *
  generalize atF l k = av at *
  go_enter Try.func28, Try.ntmps28
  go_wp2_with (first | (at_builtin; refine wpList_append_S _ rfl (.const (.slice none 0 0)) (.tmp 9) 31 31 rfl w.heap.size 48 48 2 24 Try.underlying31 Try.underlying31 info_fd FdS FdS.still FdS.one (fun _ => True) (.slice none 0 0) [] rfl (OwnS.empty _) p l.length c l rfl (SliceS.weak FdS.still H.out (fun k _ hs => ⟨trivial, by rw [rowOf_zero]; simp⟩)) (by simp; omega) (by simp [maxLen]; omega) (by simp) ?_; intro v1 w1 ho1 hg1 _; rw [List.nil_append] at ho1; obtain ⟨p1, c1, hv1, hs1⟩ := OwnF.lst ho1; subst hv1; have Ho1 := Lib.hid ho1; have hcm1 := hs1.len.2.2; have hlc1 := hs1.len.2.1; unfold maxLen at hcm1; have Hs1 := Lib.hid hs1; have Hb1 : Hid (Below w.heap.size w w1) := Lib.hid (Below.of_row hg1 (Nat.le_refl _) (fun k hk => by rw [rowOf_zero] at hk; cases hk)); clear ho1 hg1 hs1))
  go_loopw [8] (fun i wr => ∃ j : Nat, j ≤ l.length ∧ i = .int .i64 j ∧ j ≤ av ∧ wr = w1) (fun i _ => l.length - (intOf i).toNat)
  case atStart => exact ⟨0, Nat.zero_le _, rfl, Nat.zero_le _, rfl⟩
  case round =>
    obtain ⟨j, hj, rfl, hja, rfl⟩ := hrel
    have Hja := Lib.hid hja
    clear hja
    by_cases hlt : j < l.length
    · obtain ⟨g, cg, hv, hBg, hgl, hfr⟩ := OwnF.at Ho1.out hlt
      simp only [Value.slice.injEq, true_and] at hv
      obtain ⟨rfl, rfl⟩ := hv
      obtain ⟨b, o, hp, _, _, c0, c1', _⟩ := fd_at Hs1.out hlt
      simp only [Option.some.injEq, Addr.mk.injEq, and_true] at hp
      obtain ⟨rfl, rfl⟩ := hp
      have Hse := Lib.hid (setFd Hs1.out hlt t Ht.out)
      have Hg1 := Lib.hid (fun e => Hwf.out j hlt e)
      have Hgo1 := Lib.hid (fun e => Hgo.out j hlt Hja.out e)
      have Hat1 := Lib.hid (fun e => Hat.out j hlt Hja.out e)
      simp only [Nat.zero_add] at Hse c1' c0
      have HB3 := Lib.hid (Hb1.out.setCell (p := ⟨g, j * 2 + 1, none⟩) hBg (.string t))
      generalize l[j] = x at *
      obtain ⟨xc, xt⟩ := x
      dsimp only at *
      have hlti : (j : Int) < (l.length : Int) := by omega
      by_cases h0 : xc = k
      · have hg := Hg1.out (Hat1.out (by simpa using h0))
        rw [← hg] at Hse
        clear hg
        subst h0
        go_wp2_with fail
        go_ret
        exact ⟨_, _, rfl, Hse.out, HB3.out⟩
      · have h0b : (xc == k) = false := by simpa using h0
        have Hn1 := Lib.hid (Hgo1.out h0b)
        go_wp2_with fail
        go_roundw
        case rel => exact ⟨j + 1, by omega, by go_num, Hn1.out, by first | rfl | trivial⟩
        case measure => simp [intOf]; omega
    · obtain rfl : j = l.length := by omega
      have hres := Hwn.out (Nat.le_antisymm Hle.out Hja.out)
      subst hres
      go_wp2_with fail
      go_ret
      exact ⟨_, _, rfl, Hs1.out, Hb1.out⟩

/-- The fields of a fault. -/
def makeF (s c t : ByteArray) : List FdV := [⟨83, s⟩, ⟨86, s⟩, ⟨67, c⟩, ⟨77, t⟩]

theorem rmake_any (s c t : ByteArray) (w : World) (hs : s.size ≤ maxLen) (hc : c.size ≤ maxLen) (ht : t.size ≤ maxLen) :
    Calls Try.prog 30 #[.string s, .string c, .string t] w fun e w' => ∃ p d, e = .returned (.slice p 4 d) ∧ SliceS 2 FdS (fun j => w.heap.size ≤ j) w' [.slice p 4 d] (makeF s c t) ∧ Below w.heap.size w w' := by
  have HS : Hid (SliceS 2 FdS (fun j => w.heap.size ≤ j) (w.alloc (.cells #[.int .u8 83, .string s, .int .u8 86, .string s, .int .u8 67, .string c, .int .u8 77, .string t] 48)) [.slice (some ⟨w.heap.size, 0, none⟩) 4 4] (makeF s c t)) := Lib.hid (by
    refine ⟨_, _, [[.int .u8 83, .string s], [.int .u8 86, .string s], [.int .u8 67, .string c], [.int .u8 77, .string t]], rfl, Nat.le_refl _, by simp [maxLen], fun j u hu => ⟨_, _, rfl, Nat.le_refl _, ?_⟩, ?_⟩
    · rw [Nat.zero_add, World.cell?_alloc_new]
      simpa using hu
    · exact ⟨⟨rfl, rfl, hs, show (0 : Int) ≤ 83 by decide, show (83 : Int) < 256 by decide⟩, ⟨rfl, rfl, hs, show (0 : Int) ≤ 86 by decide, show (86 : Int) < 256 by decide⟩, ⟨rfl, rfl, hc, show (0 : Int) ≤ 67 by decide, show (67 : Int) < 256 by decide⟩, ⟨rfl, rfl, ht, show (0 : Int) ≤ 77 by decide, show (77 : Int) < 256 by decide⟩, trivial⟩)
  have HB := Lib.hid ((Below.refl w.heap.size w).alloc (Nat.le_refl _) (.cells #[.int .u8 83, .string s, .int .u8 86, .string s, .int .u8 67, .string c, .int .u8 77, .string t] 48))
  clear hs hc ht
  go_enter Try.func30, Try.ntmps30
  go_wp2
  go_ret
  exact ⟨_, _, rfl, HS.out, HB.out⟩

set_option maxRecDepth 100000 in
set_option maxHeartbeats 4000000 in
theorem make_any (s c t : ByteArray) (w : World) (hs : s.size ≤ maxLen) (hc : c.size ≤ maxLen) (ht : t.size ≤ maxLen) :
    Calls Try.prog 29 #[.string s, .string c, .string t] w fun e w' => ∃ p d, e = .returned (.slice p 4 d) ∧ SliceS 2 FdS (fun j => w.heap.size ≤ j) w' [.slice p 4 d] (makeF s c t) ∧ Below w.heap.size w w' := by
  have Hs := Lib.hid (And.intro hs (And.intro hc ht))
  have kc := fun (w : World) (C : Array Value) (n c : Nat) => Lib.run_convert_bytes_const (P := Try.prog) w 37 5 C n c Try.underlying37 Try.underlying5
  have HBa := Lib.hid ((Below.refl w.heap.size w).alloc (Nat.le_refl _) (.cells #[.string s, .string s, .string c, .string t] 95))
  have Hka := Lib.hid (Blk.new w 95 #[.string s, .string s, .string c, .string t])
  clear hs hc ht
  go_enter Try.func29, Try.ntmps29
  go_upto_region 2 with fail
  generalize w.alloc (.cells #[.string s, .string s, .string c, .string t] 95) = w1 at *
  have hz1 := HBa.out.size
  have Hbn := Lib.hid (BytesIn.newK w1 [83, 86, 67, 77] #[.int .u8 83, .int .u8 86, .int .u8 67, .int .u8 77] 5 (4, 5) rfl)
  have HBb := Lib.hid (HBa.out.alloc hz1 (.cells #[.int .u8 83, .int .u8 86, .int .u8 67, .int .u8 77] 5 (4, 5)))
  have Hkb := Lib.hid (Hka.out.alloc (.cells #[.int .u8 83, .int .u8 86, .int .u8 67, .int .u8 77] 5 (4, 5)))
  have hlb : w1.heap.size < (w1.alloc (.cells #[.int .u8 83, .int .u8 86, .int .u8 67, .int .u8 77] 5 (4, 5))).heap.size := by simp
  go_upto_region 4 with fail
  generalize w1.alloc (.cells #[.int .u8 83, .int .u8 86, .int .u8 67, .int .u8 77] 5 (4, 5)) = w2 at *
  generalize w1.heap.size = gb at *
  have hlA := Hkb.out.lt
  have hz2 := HBb.out.size
  go_loopw [8, 19] (fun v i wr => ∃ k : Nat, k ≤ 4 ∧ i = .int .i64 k ∧ OwnF w2.heap.size wr v ((makeF s c t).take k) ∧ Below w2.heap.size w2 wr) (fun _ i _ => 4 - (intOf i).toNat)
  case atStart => exact ⟨0, by omega, rfl, OwnS.empty _, Below.refl _ _⟩
  case round =>
    obtain ⟨k, hk, rfl, ho, hb⟩ := hrel
    have Hb := Lib.hid hb
    have Ho := Lib.hid ho
    have hsz := hb.size
    have hcA := (Hkb.out.below hb hlA).cell
    have hbi := (Hbn.out.below hb)
    have b0 : wr.cell? ⟨gb, 0, none⟩ = some (.int .u8 83) := by have := hbi.cellAt 0 (by decide); simpa using this
    have b1 : wr.cell? ⟨gb, 1, none⟩ = some (.int .u8 86) := by have := hbi.cellAt 1 (by decide); simpa using this
    have b2 : wr.cell? ⟨gb, 2, none⟩ = some (.int .u8 67) := by have := hbi.cellAt 2 (by decide); simpa using this
    have b3 : wr.cell? ⟨gb, 3, none⟩ = some (.int .u8 77) := by have := hbi.cellAt 3 (by decide); simpa using this
    have Hlen : Hid (((makeF s c t).take k).length ≤ 4) := Lib.hid (by rw [List.length_take]; have : (makeF s c t).length = 4 := rfl; omega)
    have Hrow := Lib.hid ho.row
    clear ho hb hbi
    have hcase : k = 4 ∨ k = 0 ∨ k = 1 ∨ k = 2 ∨ k = 3 := by omega
    rcases hcase with rfl | rfl | rfl | rfl | rfl
    · obtain ⟨p3, d3, hv3, hs3⟩ := OwnF.lst Ho.out
      subst hv3
      have Hs3 := Lib.hid hs3
      have Hw := Lib.hid (SliceS.weak FdS.still hs3 (S' := fun j => w.heap.size ≤ j) (fun j _ hj => by have hj' : w2.heap.size ≤ j := hj; omega))
      have HBx := Lib.hid (HBb.out.trans (Hb.out.mono hz2))
      clear hs3 hcA b0 b1 b2 b3
      go_wp2_with fail
      go_ret
      exact ⟨p3, d3, rfl, Hw.out, HBx.out⟩
    · have Hn : Hid (SliceS 2 FdS (fun j => j = wr.heap.size) (wr.alloc (.cells #[.int .u8 83, .string s] 48)) [.slice (some ⟨wr.heap.size, 0, none⟩) 1 1] [⟨83, s⟩]) := Lib.hid (SliceS.new1 (S := fun _ => False) FdS.still wr 48 #[.int .u8 83, .string s] ⟨83, s⟩ ⟨rfl, Hs.out.1, show (0 : Int) ≤ 83 by decide, show (83 : Int) < 256 by decide⟩ rfl (fun _ _ h => h.elim) rfl)
      have Hoa := Lib.hid (OwnS.below' FdS.still Ho.out ((Below.refl _ _).alloc (Nat.le_refl _) (.cells #[.int .u8 83, .string s] 48)))
      have HBa2 := Lib.hid (Hb.out.alloc hsz (.cells #[.int .u8 83, .string s] 48))
      go_wp2_with (at_builtin; refine wpList_append_S _ rfl (.tmp 24) (.tmp 30) 31 31 rfl w2.heap.size 48 48 2 24 Try.underlying31 Try.underlying31 info_fd FdS FdS.still FdS.one (fun _ => True) _ _ rfl Hoa.out (some ⟨wr.heap.size, 0, none⟩) 1 1 [⟨83, s⟩] rfl (SliceS.weak FdS.still Hn.out (fun k' _ hk' => ⟨trivial, fun e => by have := (Hrow.out k' e).2; have hk2 : k' = wr.heap.size := hk'; omega⟩)) (by have := Hlen.out; simp only [List.length_singleton]; omega) (by have := Hlen.out; simp only [List.length_singleton, maxLen]; omega) HBa2.out.size ?_; intro v5 w5 ho5 hg5 hn5; have Ho5 : Hid (OwnF w2.heap.size w5 v5 ((makeF s c t).take 1)) := Lib.hid ho5; have HB5 := Lib.hid (HBa2.out.trans (Below.of_row hg5 HBa2.out.size (fun k hk => (Hrow.out k hk).1))); clear ho5 hg5 hn5)
      go_roundw
      case rel => exact ⟨1, by omega, by first | rfl | go_num, Ho5.out, HB5.out⟩
      case measure => simp [intOf]
    · have Hn : Hid (SliceS 2 FdS (fun j => j = wr.heap.size) (wr.alloc (.cells #[.int .u8 86, .string s] 48)) [.slice (some ⟨wr.heap.size, 0, none⟩) 1 1] [⟨86, s⟩]) := Lib.hid (SliceS.new1 (S := fun _ => False) FdS.still wr 48 #[.int .u8 86, .string s] ⟨86, s⟩ ⟨rfl, Hs.out.1, show (0 : Int) ≤ 86 by decide, show (86 : Int) < 256 by decide⟩ rfl (fun _ _ h => h.elim) rfl)
      have Hoa := Lib.hid (OwnS.below' FdS.still Ho.out ((Below.refl _ _).alloc (Nat.le_refl _) (.cells #[.int .u8 86, .string s] 48)))
      have HBa2 := Lib.hid (Hb.out.alloc hsz (.cells #[.int .u8 86, .string s] 48))
      go_wp2_with (at_builtin; refine wpList_append_S _ rfl (.tmp 24) (.tmp 30) 31 31 rfl w2.heap.size 48 48 2 24 Try.underlying31 Try.underlying31 info_fd FdS FdS.still FdS.one (fun _ => True) _ _ rfl Hoa.out (some ⟨wr.heap.size, 0, none⟩) 1 1 [⟨86, s⟩] rfl (SliceS.weak FdS.still Hn.out (fun k' _ hk' => ⟨trivial, fun e => by have := (Hrow.out k' e).2; have hk2 : k' = wr.heap.size := hk'; omega⟩)) (by have := Hlen.out; simp only [List.length_singleton]; omega) (by have := Hlen.out; simp only [List.length_singleton, maxLen]; omega) HBa2.out.size ?_; intro v5 w5 ho5 hg5 hn5; have Ho5 : Hid (OwnF w2.heap.size w5 v5 ((makeF s c t).take 2)) := Lib.hid ho5; have HB5 := Lib.hid (HBa2.out.trans (Below.of_row hg5 HBa2.out.size (fun k hk => (Hrow.out k hk).1))); clear ho5 hg5 hn5)
      go_roundw
      case rel => exact ⟨2, by omega, by first | rfl | go_num, Ho5.out, HB5.out⟩
      case measure => simp [intOf]
    · have Hn : Hid (SliceS 2 FdS (fun j => j = wr.heap.size) (wr.alloc (.cells #[.int .u8 67, .string c] 48)) [.slice (some ⟨wr.heap.size, 0, none⟩) 1 1] [⟨67, c⟩]) := Lib.hid (SliceS.new1 (S := fun _ => False) FdS.still wr 48 #[.int .u8 67, .string c] ⟨67, c⟩ ⟨rfl, Hs.out.2.1, show (0 : Int) ≤ 67 by decide, show (67 : Int) < 256 by decide⟩ rfl (fun _ _ h => h.elim) rfl)
      have Hoa := Lib.hid (OwnS.below' FdS.still Ho.out ((Below.refl _ _).alloc (Nat.le_refl _) (.cells #[.int .u8 67, .string c] 48)))
      have HBa2 := Lib.hid (Hb.out.alloc hsz (.cells #[.int .u8 67, .string c] 48))
      go_wp2_with (at_builtin; refine wpList_append_S _ rfl (.tmp 24) (.tmp 30) 31 31 rfl w2.heap.size 48 48 2 24 Try.underlying31 Try.underlying31 info_fd FdS FdS.still FdS.one (fun _ => True) _ _ rfl Hoa.out (some ⟨wr.heap.size, 0, none⟩) 1 1 [⟨67, c⟩] rfl (SliceS.weak FdS.still Hn.out (fun k' _ hk' => ⟨trivial, fun e => by have := (Hrow.out k' e).2; have hk2 : k' = wr.heap.size := hk'; omega⟩)) (by have := Hlen.out; simp only [List.length_singleton]; omega) (by have := Hlen.out; simp only [List.length_singleton, maxLen]; omega) HBa2.out.size ?_; intro v5 w5 ho5 hg5 hn5; have Ho5 : Hid (OwnF w2.heap.size w5 v5 ((makeF s c t).take 3)) := Lib.hid ho5; have HB5 := Lib.hid (HBa2.out.trans (Below.of_row hg5 HBa2.out.size (fun k hk => (Hrow.out k hk).1))); clear ho5 hg5 hn5)
      go_roundw
      case rel => exact ⟨3, by omega, by first | rfl | go_num, Ho5.out, HB5.out⟩
      case measure => simp [intOf]
    · have Hn : Hid (SliceS 2 FdS (fun j => j = wr.heap.size) (wr.alloc (.cells #[.int .u8 77, .string t] 48)) [.slice (some ⟨wr.heap.size, 0, none⟩) 1 1] [⟨77, t⟩]) := Lib.hid (SliceS.new1 (S := fun _ => False) FdS.still wr 48 #[.int .u8 77, .string t] ⟨77, t⟩ ⟨rfl, Hs.out.2.2, show (0 : Int) ≤ 77 by decide, show (77 : Int) < 256 by decide⟩ rfl (fun _ _ h => h.elim) rfl)
      have Hoa := Lib.hid (OwnS.below' FdS.still Ho.out ((Below.refl _ _).alloc (Nat.le_refl _) (.cells #[.int .u8 77, .string t] 48)))
      have HBa2 := Lib.hid (Hb.out.alloc hsz (.cells #[.int .u8 77, .string t] 48))
      go_wp2_with (at_builtin; refine wpList_append_S _ rfl (.tmp 24) (.tmp 30) 31 31 rfl w2.heap.size 48 48 2 24 Try.underlying31 Try.underlying31 info_fd FdS FdS.still FdS.one (fun _ => True) _ _ rfl Hoa.out (some ⟨wr.heap.size, 0, none⟩) 1 1 [⟨77, t⟩] rfl (SliceS.weak FdS.still Hn.out (fun k' _ hk' => ⟨trivial, fun e => by have := (Hrow.out k' e).2; have hk2 : k' = wr.heap.size := hk'; omega⟩)) (by have := Hlen.out; simp only [List.length_singleton]; omega) (by have := Hlen.out; simp only [List.length_singleton, maxLen]; omega) HBa2.out.size ?_; intro v5 w5 ho5 hg5 hn5; have Ho5 : Hid (OwnF w2.heap.size w5 v5 ((makeF s c t).take 4)) := Lib.hid ho5; have HB5 := Lib.hid (HBa2.out.trans (Below.of_row hg5 HBa2.out.size (fun k hk => (Hrow.out k hk).1))); clear ho5 hg5 hn5)
      go_roundw
      case rel => exact ⟨4, by omega, by first | rfl | go_num, Ho5.out, HB5.out⟩
      case measure => simp [intOf]

end Go.Proofs.Ythhebfknikfleaa
