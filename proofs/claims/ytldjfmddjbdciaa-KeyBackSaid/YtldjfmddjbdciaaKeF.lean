/-
  Statements as keys (layer 12): Split, the document's.
-/
import Derived.Test.YtldjfmddjbdciaaKeD
import Derived.Test.YtldjfmddjbdciaaKeE
import Derived.Test.YtldjfmddjbdciaaFoS
import Derived.Test.YtldjfmddjbdciaaPackB
import Derived.Lib.ConvBytes
namespace Go.Proofs.Ytldjfmddjbdciaa
open Go.RowKit
set_option linter.unusedVariables false
set_option linter.unusedSimpArgs false

/-- What Split leaves. -/
def SplitR (r : StV × Bool) (w : World) (e : Ending) (w' : World) : Prop :=
  ∃ p c, e = .returned (.tuple #[stArg r.1 p c, .bool r.2]) ∧ SliceS 1 IntU (fun j => w.heap.size ≤ j) w' [.slice p r.1.oids.length c] r.1.oids ∧ Below w.heap.size w w'

/-- '[]byte(s)'. -/
theorem conv_bytes (w : World) (s : ByteArray) :
    (convert 9 38 (.string s)).run Try.prog w = .ok (.slice (some ⟨w.heap.size, 0, none⟩) s.size (grownCap w s.size 0 5)) (Lib.bytesWorld w 5 s) :=
  Lib.run_convert_string_bytes w _ _ _ s Try.underlying9 Try.underlying38 Try.underlying5
theorem conv_below (w : World) (e : TypeId) (s : ByteArray) : Below w.heap.size w (Lib.bytesWorld w e s) :=
  ⟨by simp [Lib.bytesWorld, World.freeze, World.alloc, World.drew, -World.alloc_eq, -World.drew_eq], by simp [Lib.bytesWorld, World.freeze, World.alloc, World.drew, -World.alloc_eq, -World.drew_eq], by simp [Lib.bytesWorld, World.freeze, World.alloc, World.drew, -World.alloc_eq, -World.drew_eq], by rw [Lib.bytesWorld_size]; omega, fun k hk => Lib.bytesWorld_at_old w e s k hk⟩
theorem conv_bytesIn (w : World) (e : TypeId) (s : ByteArray) : BytesIn (Lib.bytesWorld w e s) (some ⟨w.heap.size, 0, none⟩) s.data.toList := by
  intro i hi
  refine ⟨_, _, rfl, ?_⟩
  rw [Nat.zero_add]
  exact Lib.bytesWorld_cell w e s i (by simpa using hi)

/-- The result's block, the bytes, the statement's block with its types. -/
structure SpI (w0 w : World) (g : Nat) (T : ByteArray) (L : List UInt8) (u : Value) (xs : List Int) : Prop where
  r : Blk w w0.heap.size 24 #[.string ⟨#[]⟩, .slice none 0 0]
  y : BytesIn w (some ⟨w0.heap.size + 1, 0, none⟩) L
  s : Blk w g 24 #[.string T, u]
  o : OwnI (g + 1) w u xs
  hg : w0.heap.size + 1 < g
  bel : Below w0.heap.size w0 w
section
variable {w0 w w' : World} {g : Nat} {T : ByteArray} {L : List UInt8} {u u' : Value} {xs ys : List Int} {P : Nat → Prop}
theorem SpI.row (h : SpI w0 w g T L u xs) (k : Nat) (e : rowOf u = some k) : g < k := by have := (h.o.row k e).1; omega
theorem SpI.alloc (h : SpI w0 w g T L u xs) (o : Obj) : SpI w0 (w.alloc o) g T L u xs := by
  have hb : Below w.heap.size w (w.alloc o) := (Below.refl _ _).alloc (Nat.le_refl _) _
  exact ⟨h.r.alloc _, h.y.below hb, h.s.alloc _, OwnS.below' IntU.still h.o hb, h.hg, h.bel.trans (hb.mono h.bel.size)⟩
theorem SpI.step (h : SpI w0 w g T L u xs) (hb : Below w.heap.size w w') : SpI w0 w' g T L u xs :=
  ⟨h.r.below hb h.r.lt, h.y.below hb, h.s.below hb h.s.lt, OwnS.below' IntU.still h.o hb, h.hg, h.bel.trans (hb.mono h.bel.size)⟩
/-- A number is put behind: the row grows, the statement's block takes it. -/
theorem SpI.put (h : SpI w0 w g T L u xs) (hg : w.grownBy w' (rowOf u)) (ho : OwnI (g + 1) w' u' ys) (hn : ∀ k, rowOf u' = some k → rowOf u = some k ∨ w.heap.size ≤ k) :
    Blk w' g 24 #[.string T, u] ∧ SpI w0 (w'.setCell ⟨g, 1, none⟩ u') g T L u' ys := by
  have hr := h.row
  have hT := Touch.of_row hg
  have hgl := h.hg
  have hsl := h.s.lt
  have hs : Blk w' g 24 #[.string T, u] := hT.blk h.s (fun e => by have := hr _ e.symm; omega)
  have hT2 : Touch (fun i => i = g) w' (w'.setCell ⟨g, 1, none⟩ u') := (Touch.refl (fun i => i = g) _).setCell (x := ⟨g, 1, none⟩) (fun _ => rfl) _
  have hb1 : Below w0.heap.size w w' := hT.below h.bel.size (fun k e => by have := hr _ e.symm; omega)
  have hb2 : Below w0.heap.size w' (w'.setCell ⟨g, 1, none⟩ u') := hT2.below (by have := h.bel.size; have := hg.size; omega) (fun k e => by omega)
  refine ⟨hs, hT2.blk (hT.blk h.r (fun e => by have := hr _ e.symm; omega)) (by omega), hT2.bytesIn (hT.bytesIn h.y (fun _ x e hx => by cases e; have := hr _ hx.symm; dsimp only at this; omega)) (fun _ x e hx => by cases e; dsimp only at hx; omega), ?_, ?_, h.hg, (h.bel.trans hb1).trans hb2⟩
  · have := hs.set_ 1 u'
    simpa using this
  · exact OwnS.touch IntU.still ho hT2 (fun k hk e => by have := (ho.row k hk).1; omega) (fun k _ hk _ => ⟨hk, fun e => by omega⟩)
/-- The end: the result's block is set. -/
theorem SpI.done (h : SpI w0 w g T L u xs) : ∃ p c, u = .slice p xs.length c ∧ Blk ((w.setCell ⟨w0.heap.size, 0, none⟩ (.string T)).setCell ⟨w0.heap.size, 1, none⟩ u) w0.heap.size 24 #[.string T, .slice p xs.length c] ∧
    SliceS 1 IntU (fun j => w0.heap.size ≤ j) ((w.setCell ⟨w0.heap.size, 0, none⟩ (.string T)).setCell ⟨w0.heap.size, 1, none⟩ u) [.slice p xs.length c] xs ∧ Below w0.heap.size w0 ((w.setCell ⟨w0.heap.size, 0, none⟩ (.string T)).setCell ⟨w0.heap.size, 1, none⟩ u) := by
  have hgl := h.hg
  have hT : Touch (fun i => i = w0.heap.size) w ((w.setCell ⟨w0.heap.size, 0, none⟩ (.string T)).setCell ⟨w0.heap.size, 1, none⟩ u) := ((Touch.refl (fun i => i = w0.heap.size) _).setCell (x := ⟨w0.heap.size, 0, none⟩) (fun _ => rfl) _).setCell (x := ⟨w0.heap.size, 1, none⟩) (fun _ => rfl) _
  obtain ⟨p, c, e, hs⟩ := (OwnS.touch (S' := fun k => g + 1 ≤ k) IntU.still h.o hT (fun k hk e => by have := (h.o.row k hk).1; omega) (fun k _ hk _ => ⟨hk, fun e => by omega⟩)).slice IntU.still (fun k _ hk => (show w0.heap.size ≤ k by omega)) (fun k hk => by have := (h.o.row k hk).1; show w0.heap.size ≤ k; omega)
  refine ⟨p, c, e, ?_, hs, h.bel.trans (hT.below h.bel.size (fun k e => by omega))⟩
  have := (h.r.set_ 0 (.string T)).set_ 1 u
  rw [← e]
  simpa using this
end

set_option maxRecDepth 100000 in
set_option maxHeartbeats 4000000 in
theorem rsplit_any (k : ByteArray) (w : World) (hk : k.size ≤ 100000) : Calls Try.prog 13 #[.string k] w (SplitR (splitK k.data.toList) w) := by
  have hcv := conv_bytes (w.alloc (.cells #[.string ⟨#[]⟩, .slice none 0 0] 24)) k
  have hA : Below w.heap.size w (w.alloc (.cells #[.string ⟨#[]⟩, .slice none 0 0] 24)) := (Below.refl _ _).alloc (Nat.le_refl _) _
  have hz : (w.alloc (.cells #[.string ⟨#[]⟩, .slice none 0 0] 24)).heap.size = w.heap.size + 1 := by simp
  have hin := conv_bytesIn (w.alloc (.cells #[.string ⟨#[]⟩, .slice none 0 0] 24)) 5 k
  have hbl := conv_below (w.alloc (.cells #[.string ⟨#[]⟩, .slice none 0 0] 24)) 5 k
  have hc1 := grownCap_ge (w.alloc (.cells #[.string ⟨#[]⟩, .slice none 0 0] 24)) k.size 0 5
  have hc2 := grownCap_le_maxLen (w.alloc (.cells #[.string ⟨#[]⟩, .slice none 0 0] 24)) k.size 0 5 (by simp only [maxLen]; omega)
  have hsl := Lib.bytesWorld_size (w.alloc (.cells #[.string ⟨#[]⟩, .slice none 0 0] 24)) 5 k
  rw [hz] at hcv hin hsl
  have Hr2 := Lib.hid ((Blk.new w 24 #[.string ⟨#[]⟩, .slice none 0 0]).below hbl (by simp))
  have HB2 := Lib.hid (hA.trans (hbl.mono hA.size))
  have hsz := size_data k
  have hkL : k = strOf k.data.toList := (strOf_data k).symm
  generalize k.data.toList = L at *
  rw [hsz] at hcv hc1 hc2
  have Hin := Lib.hid hin
  have Hsl := Lib.hid hsl
  have HkL := Lib.hid hkL
  have hL : L.length ≤ 100000 := by omega
  generalize grownCap (w.alloc (.cells #[.string ⟨#[]⟩, .slice none 0 0] 24)) L.length 0 5 = cap at *
  clear hA hz hbl hin hsl hsz hk hkL
  have Hno : Hid (∀ (w' : World), Blk w' w.heap.size 24 #[.string ⟨#[]⟩, .slice none 0 0] → Below w.heap.size w w' → splitK L = (stNo, false) → Blk ((w'.setCell ⟨w.heap.size, 0, none⟩ (.string ⟨#[]⟩)).setCell ⟨w.heap.size, 1, none⟩ (.slice none 0 0)) w.heap.size 24 #[.string ⟨#[]⟩, .slice none 0 0] ∧ SplitR (splitK L) w (.returned (.tuple #[.agg #[.string ⟨#[]⟩, .slice none 0 0], .bool false])) ((w'.setCell ⟨w.heap.size, 0, none⟩ (.string ⟨#[]⟩)).setCell ⟨w.heap.size, 1, none⟩ (.slice none 0 0))) := Lib.hid (fun w' hb hB e => by
    have hT : Touch (fun i => i = w.heap.size) w' ((w'.setCell ⟨w.heap.size, 0, none⟩ (.string ⟨#[]⟩)).setCell ⟨w.heap.size, 1, none⟩ (.slice none 0 0)) := ((Touch.refl (fun i => i = w.heap.size) _).setCell (x := ⟨w.heap.size, 0, none⟩) (fun _ => rfl) _).setCell (x := ⟨w.heap.size, 1, none⟩) (fun _ => rfl) _
    refine ⟨by have := (hb.set_ 0 (.string ⟨#[]⟩)).set_ 1 (.slice none 0 0); simpa using this, ?_⟩
    rw [e]
    exact ⟨none, 0, rfl, SliceS.empty none 0 (by simp [maxLen]), hB.trans (hT.below hB.size (fun k e => by omega))⟩)
  have HGet := Lib.hid (fun (at' : Int) (w0 : World) hb => getR_any (some ⟨w.heap.size + 1, 0, none⟩) L cap at' 4 w0 hc1 hc2 hb)
  go_enter Try.func13, Try.ntmps13
  go_upto_region 2 with (fail)
  generalize Lib.bytesWorld (w.alloc (.cells #[.string ⟨#[]⟩, .slice none 0 0] 24)) 5 k = w2 at *
  have HG0 := Lib.hid (HGet.out 0 w2 Hin.out)
  clear hcv
  by_cases h4 : L.length < 4
  · have hg : getV L 0 4 = (0, 3) := getV_short rfl (by omega) (by omega)
    rw [hg] at HG0
    have hsp : splitK L = (stNo, false) := by unfold splitK; rw [if_neg (fun h => by have := h.1.1; omega)]
    obtain ⟨hbf, hR⟩ := Hno.out w2 Hr2.out HB2.out hsp
    have HR := Lib.hid hR
    have c2 := Hr2.out.cell
    have f2 := Hr2.out.frozen
    clear hR hg hsp
    go_upto_region 4 with (go_at_call 39; refine HG0.out.mono ?_; rintro e w3 ⟨rfl, rfl⟩)
    have hcf := hbf.cell
    clear hbf
    go_wp2_with fail
    refine bodyPost_ret (v := .tuple #[.agg #[.string ⟨#[]⟩, .slice none 0 0], .bool false]) (by simp [results, Try.results13, go_sem, hcf]) rfl ?_
    exact HR.out
  · have hg : getV L 0 4 = (be (L.take 4), 0) := getV_yes rfl (by omega) (by omega)
    have hb4 := be4 (L.take 4) (by rw [List.length_take]; omega)
    rw [hg] at HG0
    obtain ⟨N, hN⟩ := Int.eq_ofNat_of_zero_le hb4.1
    rw [hN] at HG0
    dsimp only at HG0
    have hw1 : IntKind.i64.wrap ((L.length : Int) - 4) = (L.length : Int) - 4 := by rw [IntKind.wrap_i64]; omega
    by_cases hn : (L.length : Int) - 4 < (N : Int)
    · have hsp : splitK L = (stNo, false) := by unfold splitK; rw [if_neg (fun h => by have := h.1.2.1; rw [hN] at this; omega)]
      obtain ⟨hbf, hR⟩ := Hno.out w2 Hr2.out HB2.out hsp
      have HR := Lib.hid hR
      have c2 := Hr2.out.cell
      have f2 := Hr2.out.frozen
      clear hR hg hsp
      go_upto_region 4 with (go_at_call 39; refine HG0.out.mono ?_; rintro e w3 ⟨rfl, rfl⟩)
      have hcf := hbf.cell
      clear hbf
      go_wp2_with fail
      refine bodyPost_ret (v := .tuple #[.agg #[.string ⟨#[]⟩, .slice none 0 0], .bool false]) (by simp [results, Try.results13, go_sem, hcf]) rfl ?_
      exact HR.out
    · obtain ⟨M, hM⟩ : ∃ M, L.length = 4 + N + M := ⟨L.length - 4 - N, by omega⟩
      have hw2 : IntKind.i64.wrap ((L.length : Int) - 4 - (N : Int)) = (M : Int) := by rw [IntKind.wrap_i64]; omega
      have hS : ((L.drop 4).drop N).length = M := by rw [List.length_drop, List.length_drop]; omega
      have HM := Lib.hid hM
      have HS := Lib.hid hS
      have HN := Lib.hid hN
      clear hM hS hN hg hb4
      by_cases hr : M % 4 = 0
      · have hrm : ((M : Int) % 4 != 0) = false := by
          have : (M : Int) % 4 = 0 := by omega
          rw [this]
          rfl
        obtain ⟨q, hq⟩ : ∃ q, M = 4 * q := ⟨M / 4, by omega⟩
        have Hq := Lib.hid hq
        obtain ⟨T, hT⟩ : ∃ T, (L.drop 4).take N = T := ⟨_, rfl⟩
        obtain ⟨S, hS⟩ : ∃ S, (L.drop 4).drop N = S := ⟨_, rfl⟩
        have hTl : T.length = N := by rw [← hT, List.length_take, List.length_drop, HM.out]; omega
        have HP : Hid (partK L = ⟨strOf T, fours q S⟩) := Lib.hid (by unfold partK; rw [HN.out, Int.toNat_natCast, HS.out, hT, hS, hq, show 4 * q / 4 = q by omega])
        have HSh : Hid (shapeK L) := Lib.hid ⟨by omega, by rw [HN.out]; have := HM.out; omega, by rw [HN.out, Int.toNat_natCast, HS.out]; exact hr⟩
        have HSd : Hid (∀ j, (L.drop (4 + N + 4 * j)).take 4 = (S.drop (4 * j)).take 4) := Lib.hid (fun j => by rw [← hS, List.drop_drop, List.drop_drop]; congr 2; omega)
        have hb1 : BytesIn w2 (some ⟨w.heap.size + 1, 4, none⟩) T := by have := (Hin.out.drop 4).take N; rw [hT, Nat.zero_add] at this; exact this
        have hcv1 : (convert 38 9 (.slice (some ⟨w.heap.size + 1, 4, none⟩) N (cap - 4))).run Try.prog w2 = .ok (.string (strOf T)) w2 := by
          have := hb1.convert (cap - 4) 38 5 9 Try.underlying38 Try.underlying5 Try.underlying9
          rw [hTl] at this
          exact this
        have hcv2 : cap = 4 → ∀ (x : Option Addr) (c : Nat), (convert 38 9 (.slice x N c)).run Try.prog w2 = .ok (.string (strOf T)) w2 := fun e x c => by
          have h0 : T = [] := List.eq_nil_of_length_eq_zero (by have := HM.out; omega)
          have := (BytesIn.nil w2 x).convert c 38 5 9 Try.underlying38 Try.underlying5 Try.underlying9
          rw [h0]
          rw [show N = ([] : List UInt8).length by rw [← hTl, h0]]
          exact this
        have HTs : Hid ((strOf T).size ≤ 100000) := Lib.hid (by rw [size_data, data_strOf, hTl]; have := HM.out; omega)
        generalize strOf T = st at *
        clear hT hS hTl hb1 hq hr
        go_upto_region 3 with (go_at_call 39; refine HG0.out.mono ?_; rintro e w3 ⟨rfl, rfl⟩)
        clear HG0
        go_upto_region 5 with fail
        go_cut [7] (fun v wx => v = .pointer (some ⟨w2.heap.size, 0, none⟩) ∧ wx = w2.alloc (.cells #[.string st, .slice none 0 0] 24))
        case first =>
          by_cases hcap : cap = 4
          · have hcv3 := hcv2 hcap
            clear hcv1 hcv2
            subst hcap
            go_wp2_with fail
            go_meet
            exact ⟨rfl, rfl⟩
          · clear hcv2
            go_wp2_with fail
            go_meet
            exact ⟨rfl, rfl⟩
        case rest =>
          obtain ⟨rfl, rfl⟩ := hcut
          have hal : Below w2.heap.size w2 (w2.alloc (.cells #[.string st, .slice none 0 0] 24)) := (Below.refl _ _).alloc (Nat.le_refl _) _
          have HI0 : Hid (SpI w (w2.alloc (.cells #[.string st, .slice none 0 0] 24)) w2.heap.size st L (.slice none 0 0) []) := Lib.hid ⟨Hr2.out.alloc _, Hin.out.below hal, Blk.new _ _ _, OwnS.empty none, by have := Hsl.out; omega, HB2.out.trans (hal.mono HB2.out.size)⟩
          clear hal hcv1 hcv2 Hr2 HB2 Hin Hsl
          generalize w2.alloc (.cells #[.string st, .slice none 0 0] 24) = w3 at *
          generalize w2.heap.size = g at *
          clear h4 hw1 hw2 hrm hn
          have HNM : Hid ((4 : Int) + (N : Int) = ((4 + N + 4 * 0 : Nat) : Int)) := Lib.hid (by omega)
          have hNb : (N : Int) ≤ 100000 := by have := HM.out; omega
          have hw3 : IntKind.i64.wrap ((4 : Int) + (N : Int)) = (4 : Int) + (N : Int) := by rw [IntKind.wrap_i64]; omega
          go_wp2_with fail
          go_loopw [8] (fun i wr => ∃ (j : Nat) (u : Value), j ≤ q ∧ i = .int .i64 ((4 + N + 4 * j : Nat) : Int) ∧ SpI w wr g st L u (fours j S)) (fun i _ => L.length - (intOf i).toNat)
          case atStart => exact ⟨0, _, Nat.zero_le _, by rw [HNM.out], HI0.out⟩
          case round =>
            obtain ⟨j, u, hj, rfl, hi⟩ := hrel
            have HI := Lib.hid hi
            by_cases hjq : j < q
            · have hat : ((4 + N + 4 * j : Nat) : Int) < (L.length : Int) := by have := HM.out; have := Hq.out; omega
              have HGj := Lib.hid (HGet.out ((4 + N + 4 * j : Nat) : Int) wr hi.y)
              have hgv : getV L ((4 + N + 4 * j : Nat) : Int) 4 = (be ((S.drop (4 * j)).take 4), 0) := by
                rw [← HSd.out j]
                exact getV_yes rfl (by omega) (by have := HM.out; have := Hq.out; omega)
              rw [hgv] at HGj
              have Hfs := Lib.hid (fours_succ j S)
              have Hjl := Lib.hid (fours_len j S)
              have hwa : IntKind.i64.wrap (((4 + N + 4 * j : Nat) : Int) + 4) = ((4 + N + 4 * (j + 1) : Nat) : Int) := by rw [IntKind.wrap_i64]; have := HM.out; omega
              have Hrest := Lib.hid (show ((4 + N + 4 * (j + 1) : Nat) : Int) ≤ (L.length : Int) by have := HM.out; have := Hq.out; omega)
              obtain ⟨pu, cu, hu, -⟩ := hi.o.slice IntU.still (S' := fun _ => True) (fun _ _ _ => trivial) (fun _ _ => trivial)
              rw [Hjl.out] at hu
              subst hu
              generalize be ((S.drop (4 * j)).take 4) = x at *
              have hjb : j ≤ 100000 := by have := HM.out; have := Hq.out; omega
              obtain ⟨at', hat'⟩ : ∃ a, ((4 + N + 4 * j : Nat) : Int) = a := ⟨_, rfl⟩
              have Hat := Lib.hid hat'
              rw [hat'] at HGj hat hwa ⊢
              have c3 := hi.s.cell
              have hal : Below wr.heap.size wr (wr.alloc (.cells #[.int .i64 x] 3)) := (Below.refl _ _).alloc (Nat.le_refl _) _
              have Hnw := Lib.hid (SliceS.new1 (S := fun k => g + 1 ≤ k ∧ rowOf (.slice pu j cu) ≠ some k) (S' := fun k => g + 1 ≤ k ∧ rowOf (.slice pu j cu) ≠ some k) IntU.still wr 3 #[.int .i64 x] x rfl rfl (fun k _ h => h) ⟨by have := hi.s.lt; omega, fun e => by have := (hi.o.row _ e).2; omega⟩)
              have HIa := Lib.hid (hi.alloc (.cells #[.int .i64 x] 3))
              have hz5 : g + 1 ≤ (wr.alloc (.cells #[.int .i64 x] 3)).heap.size := HIa.out.s.lt
              have hroom : (fours j S).length + [x].length ≤ 1000000 := by rw [Hjl.out]; simp only [List.length_singleton]; omega
              have Hjq := Lib.hid hjq
              clear hi hgv hjq hal hat' HI
              dsimp only at HGj
              go_wp2_with (first
                | (go_at_call 39; refine HGj.out.mono ?_; rintro e w4 ⟨rfl, rfl⟩)
                | (at_builtin; refine step_appendI _ rfl (.tmp 58) (.tmp 60) rfl (g + 1) (.slice pu j cu) (fours j S) rfl HIa.out.o (some ⟨wr.heap.size, 0, none⟩) 1 1 [x] rfl Hnw.out hroom hz5 ?_; intro v5 w5 ho5 hg5 hn5; obtain ⟨n5, p5, k5, hv5⟩ : ∃ n p c, v5 = .slice p n c := (by obtain ⟨p, c, h, -⟩ := ho5.slice IntU.still (S' := fun _ => True) (fun _ _ _ => trivial) (fun _ _ => trivial); exact ⟨_, p, c, h⟩); subst hv5; have hp := HIa.out.put hg5 ho5 hn5; have HI5 := Lib.hid hp.2; have c5 := hp.1.cell; have f5 := hp.1.frozen; clear ho5 hg5 hn5 hp c3))
              go_roundw
              case rel => exact ⟨j + 1, _, Hjq.out, by (first | rfl | (simp; done) | go_num), by rw [Hfs.out]; exact HI5.out⟩
              case measure =>
                have h1 := Hat.out
                have h2 := Hrest.out
                simp [intOf]; omega
            · obtain rfl : j = q := by omega
              have hat : ¬ ((4 + N + 4 * j : Nat) : Int) < (L.length : Int) := by have := HM.out; have := Hq.out; omega
              obtain ⟨pu, cu, hu, hsl⟩ := hi.o.slice IntU.still (S' := fun k => k ≠ w.heap.size) (fun k _ hk => (show k ≠ w.heap.size by have := hi.hg; omega)) (fun k hk => by have := (hi.o.row k hk).1; have := hi.hg; show k ≠ w.heap.size; omega)
              have Hjl := Lib.hid (fours_len j S)
              have c3 := hi.s.cell
              rw [Hjl.out] at hu
              subst hu
              have Hof := Lib.hid (rkeyOf_any (fun k => k ≠ w.heap.size) ⟨st, fours j S⟩ pu cu wr hsl HTs.out (by show (fours j S).length ≤ 100000; rw [Hjl.out]; have := HM.out; have := Hq.out; omega))
              unfold stArg at Hof
              dsimp only at Hof
              rw [Hjl.out] at Hof
              have hkp := keyV_part HSh.out
              rw [← HkL.out, HP.out] at hkp
              have Hsp : Hid (splitK L = if fairK ⟨st, fours j S⟩ = true then (⟨st, fours j S⟩, true) else (stNo, false)) := Lib.hid (by
                unfold splitK
                rw [HP.out]
                by_cases hf : fairK ⟨st, fours j S⟩ = true
                · rw [if_pos ⟨HSh.out, hf⟩, if_pos hf]
                · rw [if_neg (fun h => hf h.2), if_neg hf])
              clear hi hsl
              generalize keyV ⟨st, fours j S⟩ = kv at *
              generalize fairK ⟨st, fours j S⟩ = fv at *
              cases fv with
              | true =>
                have hkt : kv.toList = k.toList := by simpa using hkp
                go_upto_region 13 with (go_at_call 15; refine Hof.out.mono ?_; rintro e w5 ⟨rfl, hb⟩; have H5 := Lib.hid (HI.out.step hb); have c5 := H5.out.s.cell; have c2 := H5.out.r.cell; have f2 := H5.out.r.frozen; clear hb c3)
                obtain ⟨pd, cd, hud, hbd, hsd, hBd⟩ := H5.out.done
                rw [Hjl.out] at hud hbd
                injection hud with e1 e2 e3
                subst e1 e3
                have HH := Lib.hid (And.intro hsd hBd)
                have hcf := hbd.cell
                clear hbd hsd hBd
                go_wp2_with fail
                refine bodyPost_ret (v := .tuple #[.agg #[.string st, .slice pu j cu], .bool true]) (by simp [results, Try.results13, go_sem, hcf]) rfl ?_
                unfold SplitR
                have hsp' : splitK L = (⟨st, fours j S⟩, true) := by have := Hsp.out; simpa using this
                rw [hsp']
                exact ⟨pu, cu, by unfold stArg; dsimp only; rw [Hjl.out], HH.out.1, HH.out.2⟩
              | false =>
                have hkt : ¬ kv.toList = k.toList := by simpa using hkp
                go_upto_region 12 with (go_at_call 15; refine Hof.out.mono ?_; rintro e w5 ⟨rfl, hb⟩; have H5 := Lib.hid (HI.out.step hb); have c2 := H5.out.r.cell; have f2 := H5.out.r.frozen; clear hb c3)
                obtain ⟨hbf, hR⟩ := Hno.out w5 H5.out.r H5.out.bel (by have := Hsp.out; simpa using this)
                have HR := Lib.hid hR
                have hcf := hbf.cell
                clear hbf hR
                go_wp2_with fail
                refine bodyPost_ret (v := .tuple #[.agg #[.string ⟨#[]⟩, .slice none 0 0], .bool false]) (by simp [results, Try.results13, go_sem, hcf]) rfl ?_
                exact HR.out
      · have hsp : splitK L = (stNo, false) := by unfold splitK; rw [if_neg (fun h => by have := h.1.2.2; rw [HN.out, Int.toNat_natCast, HS.out] at this; exact hr this)]
        obtain ⟨hbf, hR⟩ := Hno.out w2 Hr2.out HB2.out hsp
        have HR := Lib.hid hR
        have c2 := Hr2.out.cell
        have f2 := Hr2.out.frozen
        have hrm : ((M : Int) % 4 != 0) = true := by
          have : ¬ (M : Int) % 4 = 0 := by omega
          simpa using this
        clear hR hsp Hno HGet hr
        go_upto_region 3 with (go_at_call 39; refine HG0.out.mono ?_; rintro e w3 ⟨rfl, rfl⟩)
        clear HG0
        go_upto_region 4 with fail
        have hcf := hbf.cell
        clear hbf
        go_wp2_with fail
        refine bodyPost_ret (v := .tuple #[.agg #[.string ⟨#[]⟩, .slice none 0 0], .bool false]) (by simp [results, Try.results13, go_sem, hcf]) rfl ?_
        exact HR.out

end Go.Proofs.Ytldjfmddjbdciaa
