/-
  The contract of limit.Check: whether settings may be.
-/
import Derived.Test.YtbgdjgfkpllhlaaLimitB
namespace Go.Proofs.Ytbgdjgfkpllhlaa
open Go.RowKit

/-- What lies between which two numbers. -/
structure Bnd where
  n : Int
  lo : Int
  hi : Int
def Bnd.ok (b : Bnd) : Bool := decide (b.lo ≤ b.n) && decide (b.n ≤ b.hi)
def BndR (_B : Nat) (_w : World) (cs : List Value) (x : Bnd) : Prop := cs = [.int .i64 x.n, .int .i64 x.lo, .int .i64 x.hi]
theorem BndR.stays : Stays BndR := fun _ _ _ _ _ h _ => h

def bnds (s c t m b q n : Int) : List Bnd := [⟨s, 1, 8⟩, ⟨c, 1, 64⟩, ⟨t, 1, 64⟩, ⟨m, 64, 65536⟩, ⟨b, m, 131072⟩, ⟨q, 6, 256⟩, ⟨n, 0, 16⟩]

theorem ok_any (n lo hi : Int) (w : World) :
    Calls Try.prog 29 #[.agg #[.int .i64 n, .int .i64 lo, .int .i64 hi]] w fun e w' => e = .returned (.bool (Bnd.ok ⟨n, lo, hi⟩)) ∧ Below w.heap.size w w' := by
  rw [show Bnd.ok ⟨n, lo, hi⟩ = (decide (lo ≤ n) && decide (n ≤ hi)) from rfl]
  go_enter Try.func29, Try.ntmps29
  go_wp2
  all_goals go_ret
  all_goals refine ⟨ret_bool ?_, (Below.refl _ _).alloc (Nat.le_refl _) _⟩
  all_goals simp_all
  all_goals omega

theorem bounds_any (s c t m b q : Int) (p : Option Addr) (n cap : Nat) (w : World) :
    Calls Try.prog 28 #[.agg #[.int .i64 s, .int .i64 c, .int .i64 t, .int .i64 m, .int .i64 b, .int .i64 q, .slice p n cap]] w fun e w' =>
      ∃ g, e = .returned (.slice (some ⟨g, 0, none⟩) 7 7) ∧ g < w'.heap.size ∧ SliceR 3 BndR w'.heap.size w' [.slice (some ⟨g, 0, none⟩) 7 7] (bnds s c t m b q n) ∧ Below w.heap.size w w' := by
  go_enter Try.func28, Try.ntmps28
  go_wp2
  go_ret
  have hn := SliceR.new (R := BndR) (n := 3) (w.alloc (.cells #[.int .i64 s, .int .i64 c, .int .i64 t, .int .i64 m, .int .i64 b, .int .i64 q, .slice p n cap] 34)) 49
    #[.int .i64 s, .int .i64 1, .int .i64 8, .int .i64 c, .int .i64 1, .int .i64 64, .int .i64 t, .int .i64 1, .int .i64 64, .int .i64 m, .int .i64 64, .int .i64 65536, .int .i64 b, .int .i64 m, .int .i64 131072, .int .i64 q, .int .i64 6, .int .i64 256, .int .i64 n, .int .i64 0, .int .i64 16]
    (fun x : Bnd => [.int .i64 x.n, .int .i64 x.lo, .int .i64 x.hi]) (bnds s c t m b q n) (fun _ => rfl) rfl (by simp [maxLen, bnds]) (fun x _ => rfl)
  refine ⟨w.heap.size + 1, rfl, by simp, ?_, ((Below.refl _ _).alloc (Nat.le_refl _) _).alloc (by simp) _⟩
  simp only [World.size_alloc] at hn ⊢
  exact hn

/-- Whether settings may be, as an error's number. -/
def checkV (s c t m b q : Int) (xs : List PairL) : Int :=
  if (bnds s c t m b q xs.length).all Bnd.ok = true ∧ b ≠ m ∧ xs.all fairB = true then 0 else 1

set_option maxHeartbeats 1000000 in
theorem check_any (s c t m b q : Int) (p : Option Addr) (xs : List PairL) (cap : Nat) (w : World) (B : Nat) (hB : B ≤ w.heap.size) (hx : SliceR 2 PairR B w [.slice p xs.length cap] xs) :
    Calls Try.prog 17 #[.agg #[.int .i64 s, .int .i64 c, .int .i64 t, .int .i64 m, .int .i64 b, .int .i64 q, .slice p xs.length cap]] w fun e w' =>
      e = .returned (.int .i64 (checkV s c t m b q xs)) ∧ Below w.heap.size w w' := by
  have Hx := Lib.hid hx
  clear hx
  go_enter Try.func17, Try.ntmps17
  go_wp2_with fail
  refine (bounds_any s c t m b q p xs.length cap _).mono ?_
  rintro e w1 ⟨g, rfl, hg, hbn, hb1⟩
  simp only [World.size_alloc] at hb1
  have Hbn := Lib.hid hbn
  have hs1 := hb1.size
  simp only [World.size_alloc] at hs1
  have Hb1 := Lib.hid hb1
  clear hbn hb1
  have hlen : (bnds s c t m b q xs.length).length = 7 := rfl
  generalize hbs : bnds s c t m b q xs.length = bs at hlen
  have Hlen := Lib.hid hlen
  have Hbs := Lib.hid hbs
  have Hbn2 : Hid (SliceR 3 BndR w1.heap.size w1 [Value.slice (some { block := g, off := 0 }) 7 7] bs) := by rw [← hbs]; exact Hbn.out
  clear hlen hbs Hbn
  go_wp2_with fail
  go_loopw [4, 8] (fun _ i wr => ∃ k : Nat, k ≤ 7 ∧ i = .int .i64 k ∧ (∀ j x, j < k → bs[j]? = some x → x.ok = true) ∧ Below w1.heap.size w1 wr) (fun _ i _ => 7 - (intOf i).toNat)
  case atStart => exact ⟨0, Nat.zero_le _, rfl, fun j x h => by omega, Below.refl _ _⟩
  case round =>
    obtain ⟨k, hk, rfl, hall, hbw⟩ := hrel
    have Hall := Lib.hid hall
    have Hbw := Lib.hid hbw
    have hsz := hbw.size
    clear hall hbw
    by_cases hlt : k < 7
    · have hkl : k < bs.length := by rw [Hlen.out]; exact hlt
      obtain ⟨p', c', h1, _, _, h4⟩ := SliceR.stays BndR.stays _ _ _ _ _ Hbn2.out Hbw.out
      simp only [List.cons.injEq, Value.slice.injEq, and_true] at h1
      obtain ⟨rfl, h7, rfl⟩ := h1
      clear h7
      obtain ⟨b', o, es, he, hbB, hel, hcell, rfl⟩ := h4 k bs[k] (List.getElem?_eq_getElem hkl)
      cases he
      have c0 := hcell 0 _ rfl
      have c1 := hcell 1 _ rfl
      have c2 := hcell 2 _ rfl
      rw [Nat.zero_add] at c0 c1 c2
      rw [Nat.add_zero] at c0
      clear hcell h4 hel
      have hx : bs[k]? = some bs[k] := List.getElem?_eq_getElem hkl
      generalize bs[k] = x at c0 c1 c2 hx
      obtain ⟨xn, xlo, xhi⟩ := x
      have Hx2 := Lib.hid hx
      clear hx
      go_wp2_with (first | (go_at_call 29; refine (ok_any _ _ _ _).mono ?_; rintro e w2 ⟨rfl, hb2⟩))
      · have hno : (!Bnd.ok ⟨xn, xlo, xhi⟩) = true := by assumption
        have hok : Bnd.ok ⟨xn, xlo, xhi⟩ = false := by simpa using hno
        go_ret
        refine ⟨ret_int ?_, (((Below.refl _ _).alloc (Nat.le_refl _) _).trans (Hb1.out.mono (by omega))).trans ((Hbw.out.mono (by omega)).trans (((Below.refl _ _).alloc (by omega) _).trans (hb2.mono (by simp; omega))))⟩
        unfold checkV
        rw [if_neg]
        rintro ⟨ha, _⟩
        rw [Hbs.out] at ha
        have := List.all_eq_true.1 ha _ (List.mem_of_getElem? Hx2.out)
        rw [hok] at this
        cases this
      · have hno : (!Bnd.ok ⟨xn, xlo, xhi⟩) = false := by assumption
        have hok : Bnd.ok ⟨xn, xlo, xhi⟩ = true := by simpa using hno
        have Hok := Lib.hid hok
        clear hok hno
        go_roundw
        case rel => exact ⟨k + 1, by omega, by go_num, fun j x hj hjx => by
          by_cases e : j = k
          · subst e
            rw [Hx2.out] at hjx
            cases hjx
            exact Hok.out
          · exact Hall.out j x (by omega) hjx, Hbw.out.trans (((Below.refl _ _).alloc (by omega) _).trans (hb2.mono (by simp; omega)))⟩
        case measure => simp [intOf]; omega
    · have c3 : wr.cell? ⟨w.heap.size, 3, none⟩ = some (.int .i64 m) := (Hbw.out.cell (p := ⟨w.heap.size, 3, none⟩) (by show w.heap.size < _; omega)).trans ((Hb1.out.cell (p := ⟨w.heap.size, 3, none⟩) (by show w.heap.size < _; omega)).trans (by simp))
      have c4 : wr.cell? ⟨w.heap.size, 4, none⟩ = some (.int .i64 b) := (Hbw.out.cell (p := ⟨w.heap.size, 4, none⟩) (by show w.heap.size < _; omega)).trans ((Hb1.out.cell (p := ⟨w.heap.size, 4, none⟩) (by show w.heap.size < _; omega)).trans (by simp))
      have c6 : wr.cell? ⟨w.heap.size, 6, none⟩ = some (.slice p xs.length cap) := (Hbw.out.cell (p := ⟨w.heap.size, 6, none⟩) (by show w.heap.size < _; omega)).trans ((Hb1.out.cell (p := ⟨w.heap.size, 6, none⟩) (by show w.heap.size < _; omega)).trans (by simp))
      have hbel : Below w.heap.size w wr := (((Below.refl _ _).alloc (Nat.le_refl _) _).trans (Hb1.out.mono (by omega))).trans (Hbw.out.mono (by omega))
      have Hbel := Lib.hid hbel
      have hallok : bs.all Bnd.ok = true := by
        rw [List.all_eq_true]
        intro x hx
        obtain ⟨j, hj, rfl⟩ := List.getElem_of_mem hx
        exact Hall.out j _ (by rw [Hlen.out] at hj; omega) (List.getElem?_eq_getElem hj)
      have Hallok := Lib.hid hallok
      clear hbel hallok
      by_cases hbm : b = m
      · go_wp2
        go_ret
        refine ⟨ret_int ?_, Hbel.out⟩
        unfold checkV
        rw [if_neg (fun h => h.2.1 hbm)]
      · have hbm' : (b == m) = false := by simpa using hbm
        have hany : ∀ v : Bool, (xs.any fun x => !fairB x) = v → checkV s c t m b q xs = if v = true then 1 else 0 := by
          intro v hv
          unfold checkV
          rw [Hbs.out, Hallok.out]
          have : xs.all fairB = !v := by rw [← hv, List.any_eq_not_all_not]; simp
          rw [this]
          cases v <;> simp [hbm]
        have Hany := Lib.hid hany
        clear hbm hany
        go_wp2_with (first | (go_at_call 30; refine (containsFunc_any _ _ _ _ B (by omega) (SliceR.stays PairR.stays B w _ _ _ Hx.out (Hbel.out.mono hB))).mono ?_; rintro e w3 ⟨rfl, hb3⟩))
        all_goals go_ret
        all_goals refine ⟨ret_int ?_, Hbel.out.trans (hb3.mono (by omega))⟩
        · have h : (xs.any fun x => !fairB x) = true := by assumption
          rw [Hany.out _ h]; rfl
        · have h : (xs.any fun x => !fairB x) = false := by assumption
          rw [Hany.out _ h]; rfl

end Go.Proofs.Ytbgdjgfkpllhlaa
