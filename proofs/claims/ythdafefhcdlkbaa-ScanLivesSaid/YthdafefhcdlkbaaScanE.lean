/-
  The walk of ScanAll (layer 3).
-/
import Derived.Test.YthdafefhcdlkbaaScanD
import Derived.Test.YthdafefhcdlkbaaBytesEqual
import Derived.Test.YthdafefhcdlkbaaRead
namespace Go.Proofs.Ythdafefhcdlkbaa
open Go.RowKit

/-- Take, any number that is there. -/
theorem scanTake_row (sb g : Nat) (L : List UInt8) (n : Nat) (w : World) (h : ScanO w sb g L false) (hn : n ≤ L.length) (hL : L.length ≤ 1000000000) :
    Calls Try.prog 32 #[.pointer (some ⟨sb, 0, none⟩), .int .i64 (n : Int)] w fun e w' =>
      ∃ T D p c, e = .returned (.slice p T.length c) ∧ T ++ D = L ∧ T.length = n ∧ BytesIn w' p T ∧ ScanO w' sb g D false ∧ Touch (fun i => i = sb) w w' := by
  refine (scanTake_yes sb g L n w h hn hL).mono ?_
  rintro e w' ⟨v, rfl, ho, hs, ht⟩
  obtain ⟨p, c, rfl, _, _, hin⟩ := ho.slice
  exact ⟨L.take n, L.drop n, p, c, rfl, List.take_append_drop n L, by rw [List.length_take]; omega, hin, hs, ht⟩

/-- A scan, and a row of the call's own beside it. -/
structure StS (B : Nat) (w : World) (sb g : Nat) (L : List UInt8) (vo : Value) (lo l : List UInt8) : Prop where
  scan : ScanO w sb g L false
  own : OwnB B w vo lo
  sB : B ≤ sb
  no : ∀ k, vo.ownBlock = some k → k ≠ sb ∧ (L ≠ [] → k ≠ g)
  all : lo ++ L = l

theorem StS.take {B : Nat} {w w' w'' : World} {sb g : Nat} {L T D : List UInt8} {vo : Value} {lo l : List UInt8} (h : StS B w sb g L vo lo l) (hTD : T ++ D = L) (hr : ScanO w' sb g D false) {vo' : Value} (hw : w'.grownBy w'' vo.ownBlock)
    (ho : OwnB B w'' vo' (lo ++ T)) (hn : ∀ k, vo'.ownBlock = some k → vo.ownBlock = some k ∨ w'.heap.size ≤ k) : StS B w'' sb g D vo' (lo ++ T) l := by
  have hT := Touch.of_grown hw
  have hno := h.no
  have hL : D ≠ [] → L ≠ [] := fun h e => by rw [e] at hTD; exact h (List.append_eq_nil_iff.1 hTD).2
  have hrl := hr.lt
  have hgl := hr.ltg
  refine ⟨hr.touch hT (fun e => (hno sb e.symm).1 rfl) (fun hne e => (hno g e.symm).2 (hL hne) rfl), ho, h.sB, ?_, ?_⟩
  · intro j hj
    rcases hn j hj with e | e
    · exact ⟨(hno j e).1, fun hne => (hno j e).2 (hL hne)⟩
    · exact ⟨by omega, fun hne => by have := hgl hne; omega⟩
  · rw [← h.all, List.append_assoc, hTD]

set_option maxRecDepth 100000 in
set_option maxHeartbeats 2000000 in
theorem scanAll_walk (p : Option Addr) (l : List UInt8) (c : Nat) (q : Option Addr) (sz : List UInt8) (d : Nat) (w : World) (hx : BytesR w.heap.size w [.slice p l.length c] l) (hy : BytesR w.heap.size w [.slice q sz.length d] sz) :
    Calls Try.prog 9 #[.slice p l.length c, .slice q sz.length d] w fun e w' => e = .returned (.bool true) ∧ Below w.heap.size w w' := by
  obtain ⟨p', c', h1, hlc, hcm, hin, hinB⟩ := hx
  simp only [List.cons.injEq, Value.slice.injEq, and_true] at h1
  obtain ⟨rfl, -, rfl⟩ := h1
  obtain ⟨q', d', h1, hld, hdm, hinq, hinqB⟩ := hy
  simp only [List.cons.injEq, Value.slice.injEq, and_true] at h1
  obtain ⟨rfl, -, rfl⟩ := h1
  unfold maxLen at hcm hdm
  have Hin := Lib.hid hin
  have HinB := Lib.hid hinB
  have Hinq := Lib.hid hinq
  have HinqB := Lib.hid hinqB
  clear hin hinB hinq hinqB
  by_cases hbig : 2000 < l.length ∨ 200 < sz.length
  · have hb' : 2000 < l.length ∨ (l.length ≤ 2000 ∧ 200 < sz.length) := by omega
    clear hbig
    rcases hb' with hb | ⟨hb, hb2⟩
    all_goals
      go_enter Try.func9, Try.ntmps9
      go_wp2_with fail
      refine (scanAwake _).mono ?_
      rintro e w3 ⟨rfl, ht3⟩
      have Ht3 := Lib.hid ht3
      clear ht3
      go_wp2
      go_ret
      exact ⟨rfl, Ht3.out.below (Nat.le_refl _) (fun k e => e.elim)⟩
  · have hl : l.length ≤ 2000 := by omega
    have hsz : sz.length ≤ 200 := by omega
    clear hbig
    go_enter Try.func9, Try.ntmps9
    go_wp2_with fail
    refine (scanNew_any p l c w (by omega) Hin.out).mono ?_
    rintro e w1 ⟨sb, g, rfl, h1, hsb, hg, ht1⟩
    have Hst := Lib.hid (show StS w.heap.size w1 sb g l (.slice none 0 0) [] l from ⟨h1, OwnB.none _ _, hsb, by simp [Value.ownBlock], rfl⟩)
    have Hb1 := Lib.hid (ht1.below (Nat.le_refl _) (fun k e => e.elim))
    clear h1 ht1 hsb hg
    go_wp2_with fail
    go_loopw [6, 8, 22] (fun vo _ i wr => ∃ k : Nat, k ≤ sz.length ∧ i = .int .i64 k ∧ ∃ L lo, StS w.heap.size wr sb g L vo lo l ∧ Below w.heap.size w wr) (fun _ _ i _ => sz.length - (intOf i).toNat)
    case atStart => exact ⟨0, Nat.zero_le _, rfl, _, _, Hst.out, Hb1.out⟩
    case round =>
      clear Hst Hb1
      obtain ⟨k, hk, rfl, L, lo, hst, hbw⟩ := hrel
      have hsw := hbw.size
      have hll : lo.length + L.length ≤ 2000 := by
        have := congrArg List.length hst.all
        rw [List.length_append] at this
        omega
      have Hst := Lib.hid hst
      have Hbw := Lib.hid hbw
      clear hst hbw
      by_cases hlt : k < sz.length
      · obtain ⟨qb, qo, rfl⟩ := Hinq.out.addr (by omega)
        have hcell := ((Hinq.out.below (Hbw.out))).cellAt k hlt
        have hu := u8_bd (sz.getD k 0)
        generalize (sz.getD k 0).toNat = u at hcell hu
        go_wp2_with fail
        refine (scanLeft_any sb g L false _ Hst.out.scan).mono ?_
        rintro e w3 ⟨rfl, rfl⟩
        go_wp2_with fail
        all_goals
          refine (scanTake_row sb g L _ _ Hst.out.scan (by omega) (by omega)).mono ?_
          rintro e w3 ⟨T, D, pp, cc, rfl, htd, htl, hin3, hs3, ht3⟩
          have Hin3 := Lib.hid hin3
          have Hs3 := Lib.hid hs3
          have Ho3 := Lib.hid (Hst.out.own.touch ht3 (fun k hk => (Hst.out.no k hk).1))
          have Hb3 := Lib.hid (Hbw.out.trans (ht3.below hsw (fun k e => by have := Hst.out.sB; omega)))
          have hs3' := Hb3.out.size
          have Htd := Lib.hid htd
          have htl2 : T.length ≤ L.length := by omega
          clear hin3 hs3 ht3 htd htl
          go_wp2_with (at_builtin; refine step_appendB' _ rfl (.tmp 26) (.tmp 33) rfl w.heap.size u6 lo rfl Ho3.out pp T T.length cc rfl rfl Hin3.out (by omega) hs3' ?_; intro vo4 w4 ho4 hg4 hn4; have Hst4 := Lib.hid (Hst.out.take Htd.out Hs3.out hg4 ho4 hn4); have Hb4 := Lib.hid (Hb3.out.trans ((Touch.of_grown hg4).below hs3' (fun k e => (Ho3.out.lt k e.symm).1))); clear ho4 hg4 hn4)
          go_roundw
          case rel => exact ⟨k + 1, by omega, by go_num, _, _, Hst4.out, Hb4.out⟩
          case measure => simp [intOf]; omega
      · go_wp2_with fail
        refine (scanLeft_any sb g L false _ Hst.out.scan).mono ?_
        rintro e w3 ⟨rfl, rfl⟩
        go_wp2_with fail
        refine (scanTake_row sb g L L.length _ Hst.out.scan (by omega) (by omega)).mono ?_
        rintro e w3 ⟨T, D, pp, cc, rfl, htd, htl, hin3, hs3, ht3⟩
        have Hin3 := Lib.hid hin3
        have Hs3 := Lib.hid hs3
        have Ho3 := Lib.hid (Hst.out.own.touch ht3 (fun k hk => (Hst.out.no k hk).1))
        have Hb3 := Lib.hid (Hbw.out.trans (ht3.below hsw (fun k e => by have := Hst.out.sB; omega)))
        have hs3' := Hb3.out.size
        have Htd := Lib.hid htd
        have htl2 : T.length ≤ L.length := by omega
        have hD : D = [] := by have := congrArg List.length htd; rw [List.length_append] at this; exact List.eq_nil_of_length_eq_zero (by omega)
        clear hin3 hs3 ht3 htd htl
        subst hD
        go_wp2_with (at_builtin; refine step_appendB' _ rfl (.tmp 36) (.tmp 40) rfl w.heap.size u6 lo rfl Ho3.out pp T T.length cc rfl rfl Hin3.out (by omega) hs3' ?_; intro vo4 w4 ho4 hg4 hn4; have Hst4 := Lib.hid (Hst.out.take Htd.out Hs3.out hg4 ho4 hn4); have Hb4 := Lib.hid (Hb3.out.trans ((Touch.of_grown hg4).below hs3' (fun k e => (Ho3.out.lt k e.symm).1))); have hs4 := Hb4.out.size; have hall := Hst4.out.all; rw [List.append_nil] at hall; rw [hall] at ho4; obtain ⟨po, co, rfl, _, _, hio⟩ := ho4.slice; have Hio := Lib.hid hio; have Hin4 := Lib.hid (Hin.out.below Hb4.out); clear ho4 hg4 hn4 hall hio)
        refine (equal_any po p l l co c _ Hio.out Hin4.out).mono ?_
        rintro e w5 ⟨rfl, rfl⟩
        rw [beq_self_eq_true]
        go_wp2_with fail
        refine (scanDone_any sb g [] false _ Hst4.out.scan).mono ?_
        rintro e w5 ⟨rfl, rfl⟩
        go_wp2_with fail
        refine (scanAwake _).mono ?_
        rintro e w5 ⟨rfl, ht5⟩
        have Hb5 := Lib.hid (Hb4.out.trans (ht5.below hs4 (fun k e => e.elim)))
        clear ht5
        go_wp2
        go_ret
        exact ⟨rfl, Hb5.out⟩

end Go.Proofs.Ythdafefhcdlkbaa
