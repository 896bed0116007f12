/-
  Statements as keys (layer 12): Split, the program's: the walk.
-/
import Derived.Test.YtldjfmddjbdciaaKeH
namespace Go.Proofs.Ytldjfmddjbdciaa
open Go.RowKit Go.Shelf
set_option linter.unusedVariables false
set_option linter.unusedSimpArgs false
attribute [local go_sem] Oper.semAt_some

theorem ext_str (L : List UInt8) (N : Nat) : (strOf L).extract 4 (4 + N) = strOf ((L.drop 4).take N) := by
  unfold strOf
  apply ByteArray.ext
  simp [ByteArray.data_extract]

set_option maxRecDepth 100000 in
set_option maxHeartbeats 4000000 in
theorem split_no (k : ByteArray) (w : World) (hk : k.size ≤ 100000) (hns : ¬ shapeK k.data.toList) : Calls Try.prog 12 #[.string k] w (SplitR (splitK k.data.toList) w) := by
  have hcv := conv_bytes (w.alloc (.cells #[.string ⟨#[]⟩, .slice none 0 0] 24)) k
  have hA : Below w.heap.size w (w.alloc (.cells #[.string ⟨#[]⟩, .slice none 0 0] 24)) := (Below.refl _ _).alloc (Nat.le_refl _) _
  have hz : (w.alloc (.cells #[.string ⟨#[]⟩, .slice none 0 0] 24)).heap.size = w.heap.size + 1 := by simp
  have hin := conv_bytesIn (w.alloc (.cells #[.string ⟨#[]⟩, .slice none 0 0] 24)) 5 k
  have hbl := conv_below (w.alloc (.cells #[.string ⟨#[]⟩, .slice none 0 0] 24)) 5 k
  have hc1 := grownCap_ge (w.alloc (.cells #[.string ⟨#[]⟩, .slice none 0 0] 24)) k.size 0 5
  have hc2 := grownCap_le_maxLen (w.alloc (.cells #[.string ⟨#[]⟩, .slice none 0 0] 24)) k.size 0 5 (by simp only [maxLen]; omega)
  have hsl := Lib.bytesWorld_size (w.alloc (.cells #[.string ⟨#[]⟩, .slice none 0 0] 24)) 5 k
  rw [hz] at hcv hin hsl
  have Hr2 := Lib.hid ((Blk.new w 24 #[.string ⟨#[]⟩, .slice none 0 0]).below hbl (by simp))
  have HB2 := Lib.hid (hA.trans (hbl.mono hA.size))
  have hsz := size_data k
  have hkL : k = strOf k.data.toList := (strOf_data k).symm
  generalize k.data.toList = L at *
  have Hns := Lib.hid hns
  clear hns
  rw [hsz] at hcv hc1 hc2
  have Hin := Lib.hid hin
  have Hsl := Lib.hid hsl
  have HkL := Lib.hid hkL
  have hL : L.length ≤ 100000 := by omega
  generalize grownCap (w.alloc (.cells #[.string ⟨#[]⟩, .slice none 0 0] 24)) L.length 0 5 = cap at *
  clear hA hz hbl hin hsl hsz hk hkL
  have Hno : Hid (∀ (w' : World), Blk w' w.heap.size 24 #[.string ⟨#[]⟩, .slice none 0 0] → Below w.heap.size w w' → splitK L = (stNo, false) → Blk ((w'.setCell ⟨w.heap.size, 0, none⟩ (.string ⟨#[]⟩)).setCell ⟨w.heap.size, 1, none⟩ (.slice none 0 0)) w.heap.size 24 #[.string ⟨#[]⟩, .slice none 0 0] ∧ SplitR (splitK L) w (.returned (.tuple #[.agg #[.string ⟨#[]⟩, .slice none 0 0], .bool false])) ((w'.setCell ⟨w.heap.size, 0, none⟩ (.string ⟨#[]⟩)).setCell ⟨w.heap.size, 1, none⟩ (.slice none 0 0))) := Lib.hid (fun w' hb hB e => by
    have hT : Touch (fun i => i = w.heap.size) w' ((w'.setCell ⟨w.heap.size, 0, none⟩ (.string ⟨#[]⟩)).setCell ⟨w.heap.size, 1, none⟩ (.slice none 0 0)) := ((Touch.refl (fun i => i = w.heap.size) _).setCell (x := ⟨w.heap.size, 0, none⟩) (fun _ => rfl) _).setCell (x := ⟨w.heap.size, 1, none⟩) (fun _ => rfl) _
    refine ⟨by have := (hb.set_ 0 (.string ⟨#[]⟩)).set_ 1 (.slice none 0 0); simpa using this, ?_⟩
    rw [e]
    exact ⟨none, 0, rfl, SliceS.empty none 0 (by simp [maxLen]), hB.trans (hT.below hB.size (fun k e => by omega))⟩)
  have HGet := Lib.hid (fun (at' : Int) (w0 : World) hb => get_any (some ⟨w.heap.size + 1, 0, none⟩) L cap at' 4 w0 hc1 hc2 hb)
  go_enter Try.func12, Try.ntmps12
  go_upto_region 2 with (fail)
  generalize Lib.bytesWorld (w.alloc (.cells #[.string ⟨#[]⟩, .slice none 0 0] 24)) 5 k = w2 at *
  have HG0 := Lib.hid (HGet.out 0 w2 Hin.out)
  clear hcv
  by_cases h4 : L.length < 4
  · have hg : getV L 0 4 = (0, 3) := getV_short rfl (by omega) (by omega)
    rw [hg] at HG0
    have hsp : splitK L = (stNo, false) := by unfold splitK; rw [if_neg (fun h => by have := h.1.1; omega)]
    obtain ⟨hbf, hR⟩ := Hno.out w2 Hr2.out HB2.out hsp
    have HR := Lib.hid hR
    have c2 := Hr2.out.cell
    have f2 := Hr2.out.frozen
    clear hR hg hsp
    go_upto_region 4 with (go_at_call 36; refine HG0.out.mono ?_; rintro e w3 ⟨rfl, rfl⟩)
    have hcf := hbf.cell
    clear hbf
    go_wp2_with fail
    refine bodyPost_ret (v := .tuple #[.agg #[.string ⟨#[]⟩, .slice none 0 0], .bool false]) (by simp [results, Try.results12, go_sem, hcf]) rfl ?_
    exact HR.out
  · have hg : getV L 0 4 = (be (L.take 4), 0) := getV_yes rfl (by omega) (by omega)
    have hb4 := be4 (L.take 4) (by rw [List.length_take]; omega)
    rw [hg] at HG0
    obtain ⟨N, hN⟩ := Int.eq_ofNat_of_zero_le hb4.1
    rw [hN] at HG0
    dsimp only at HG0
    have hw1 : IntKind.i64.wrap ((L.length : Int) - 4) = (L.length : Int) - 4 := by rw [IntKind.wrap_i64]; omega
    by_cases hn : (L.length : Int) - 4 < (N : Int)
    · have hsp : splitK L = (stNo, false) := by unfold splitK; rw [if_neg (fun h => by have := h.1.2.1; rw [hN] at this; omega)]
      obtain ⟨hbf, hR⟩ := Hno.out w2 Hr2.out HB2.out hsp
      have HR := Lib.hid hR
      have c2 := Hr2.out.cell
      have f2 := Hr2.out.frozen
      clear hR hg hsp
      go_upto_region 4 with (go_at_call 36; refine HG0.out.mono ?_; rintro e w3 ⟨rfl, rfl⟩)
      have hcf := hbf.cell
      clear hbf
      go_wp2_with fail
      refine bodyPost_ret (v := .tuple #[.agg #[.string ⟨#[]⟩, .slice none 0 0], .bool false]) (by simp [results, Try.results12, go_sem, hcf]) rfl ?_
      exact HR.out
    · obtain ⟨M, hM⟩ : ∃ M, L.length = 4 + N + M := ⟨L.length - 4 - N, by omega⟩
      have hw2 : IntKind.i64.wrap ((L.length : Int) - 4 - (N : Int)) = (M : Int) := by rw [IntKind.wrap_i64]; omega
      have hS : ((L.drop 4).drop N).length = M := by rw [List.length_drop, List.length_drop]; omega
      have HM := Lib.hid hM
      have HS := Lib.hid hS
      have HN := Lib.hid hN
      clear hM hS hN hg hb4
      by_cases hr : M % 4 = 0
      · exact absurd ⟨by omega, by rw [HN.out]; have := HM.out; omega, by rw [HN.out, Int.toNat_natCast, HS.out]; exact hr⟩ Hns.out
      · have hsp : splitK L = (stNo, false) := by unfold splitK; rw [if_neg (fun h => by have := h.1.2.2; rw [HN.out, Int.toNat_natCast, HS.out] at this; exact hr this)]
        have hrm : (((L.length - (4 + N) : Nat) : Int) % 4 != 0) = true := by
          have := HM.out
          have h2 : L.length - (4 + N) = M := by omega
          rw [h2]
          have : ¬ (M : Int) % 4 = 0 := by omega
          simpa using this
        have hcap : ¬ cap = 4 + N := by have := HM.out; omega
        have hksz : k.size = L.length := by rw [HkL.out, size_data, data_strOf]
        have hbd : (4 : Int) + (N : Int) ≤ (k.size : Int) := by have := HM.out; omega
        have HK3 := Lib.hid hksz
        clear hksz hr
        go_upto_region 3 with (go_at_call 36; refine HG0.out.mono ?_; rintro e w3 ⟨rfl, rfl⟩)
        clear HG0
        go_upto_region 6 with fail
        have hal : Below w2.heap.size w2 (w2.alloc (.cells #[.string (k.extract 4 (4 + N)), .slice none 0 0] 24)) := (Below.refl _ _).alloc (Nat.le_refl _) _
        have Hr3 := Lib.hid (Hr2.out.below hal Hr2.out.lt)
        have HB3 := Lib.hid (HB2.out.trans (hal.mono HB2.out.size))
        obtain ⟨hbf, hR⟩ := Hno.out _ Hr3.out HB3.out hsp
        have HR := Lib.hid hR
        clear hal hR hsp Hno HGet
        generalize w2.alloc (.cells #[.string (k.extract 4 (4 + N)), .slice none 0 0] 24) = w3 at *
        have c2 := Hr3.out.cell
        have f2 := Hr3.out.frozen
        go_upto_region 8 with fail
        have hcf := hbf.cell
        clear hbf
        go_wp2_with fail
        refine bodyPost_ret (v := .tuple #[.agg #[.string ⟨#[]⟩, .slice none 0 0], .bool false]) (by simp [results, Try.results12, go_sem, hcf]) rfl ?_
        exact HR.out

set_option maxRecDepth 100000 in
set_option maxHeartbeats 4000000 in
theorem split_yes (k : ByteArray) (w : World) (hk : k.size ≤ 100000) (hsh : shapeK k.data.toList) : Calls Try.prog 12 #[.string k] w (SplitR (splitK k.data.toList) w) := by
  have hcv := conv_bytes (w.alloc (.cells #[.string ⟨#[]⟩, .slice none 0 0] 24)) k
  have hA : Below w.heap.size w (w.alloc (.cells #[.string ⟨#[]⟩, .slice none 0 0] 24)) := (Below.refl _ _).alloc (Nat.le_refl _) _
  have hz : (w.alloc (.cells #[.string ⟨#[]⟩, .slice none 0 0] 24)).heap.size = w.heap.size + 1 := by simp
  have hin := conv_bytesIn (w.alloc (.cells #[.string ⟨#[]⟩, .slice none 0 0] 24)) 5 k
  have hbl := conv_below (w.alloc (.cells #[.string ⟨#[]⟩, .slice none 0 0] 24)) 5 k
  have hc1 := grownCap_ge (w.alloc (.cells #[.string ⟨#[]⟩, .slice none 0 0] 24)) k.size 0 5
  have hc2 := grownCap_le_maxLen (w.alloc (.cells #[.string ⟨#[]⟩, .slice none 0 0] 24)) k.size 0 5 (by simp only [maxLen]; omega)
  have hsl := Lib.bytesWorld_size (w.alloc (.cells #[.string ⟨#[]⟩, .slice none 0 0] 24)) 5 k
  rw [hz] at hcv hin hsl
  have Hr2 := Lib.hid ((Blk.new w 24 #[.string ⟨#[]⟩, .slice none 0 0]).below hbl (by simp))
  have HB2 := Lib.hid (hA.trans (hbl.mono hA.size))
  have hsz := size_data k
  have hkL : k = strOf k.data.toList := (strOf_data k).symm
  generalize k.data.toList = L at *
  have HSh := Lib.hid hsh
  rw [hsz] at hcv hc1 hc2
  have Hin := Lib.hid hin
  have Hsl := Lib.hid hsl
  have HkL := Lib.hid hkL
  have hL : L.length ≤ 100000 := by omega
  generalize grownCap (w.alloc (.cells #[.string ⟨#[]⟩, .slice none 0 0] 24)) L.length 0 5 = cap at *
  clear hA hz hbl hin hsl hsz hk hkL
  have HGet := Lib.hid (fun (at' : Int) (w0 : World) hb => get_any (some ⟨w.heap.size + 1, 0, none⟩) L cap at' 4 w0 hc1 hc2 hb)
  have HG0 := Lib.hid (HGet.out 0 (Lib.bytesWorld (w.alloc (.cells #[.string ⟨#[]⟩, .slice none 0 0] 24)) 5 k) Hin.out)
  have h4 : ¬ L.length < 4 := by have := hsh.1; omega
  have hg : getV L 0 4 = (be (L.take 4), 0) := getV_yes rfl (by omega) (by omega)
  have hb4 := be4 (L.take 4) (by rw [List.length_take]; omega)
  rw [hg] at HG0
  obtain ⟨N, hN⟩ := Int.eq_ofNat_of_zero_le hb4.1
  rw [hN] at HG0
  dsimp only at HG0
  have hw1 : IntKind.i64.wrap ((L.length : Int) - 4) = (L.length : Int) - 4 := by rw [IntKind.wrap_i64]; omega
  have hn : ¬ (L.length : Int) - 4 < (N : Int) := by have := hsh.2.1; rw [hN] at this; omega
  obtain ⟨M, hM⟩ : ∃ M, L.length = 4 + N + M := ⟨L.length - 4 - N, by omega⟩
  obtain ⟨T, hT⟩ : ∃ T, (L.drop 4).take N = T := ⟨_, rfl⟩
  obtain ⟨S, hS⟩ : ∃ S, (L.drop 4).drop N = S := ⟨_, rfl⟩
  have hSl : S.length = M := by rw [← hS, List.length_drop, List.length_drop]; omega
  have hr : M % 4 = 0 := by have := hsh.2.2; rw [hN, Int.toNat_natCast, hS, hSl] at this; exact this
  obtain ⟨q, hq⟩ : ∃ q, M = 4 * q := ⟨M / 4, by omega⟩
  have HP : Hid (partK L = ⟨strOf T, fours q S⟩) := Lib.hid (by unfold partK; rw [hN, Int.toNat_natCast, hT, hS, hSl, hq, show 4 * q / 4 = q by omega])
  have hksz : k.size = L.length := by rw [HkL.out, size_data, data_strOf]
  have hbd : (4 : Int) + (N : Int) ≤ (k.size : Int) := by omega
  have hrl : L.length - (4 + N) = 4 * q := by omega
  have hrm : (((4 * q : Nat) : Int) % 4 != 0) = false := by
    have : ((4 * q : Nat) : Int) % 4 = 0 := by omega
    rw [this]; rfl
  have hex : k.extract 4 (4 + N) = strOf T := by rw [HkL.out, ← hT, ext_str]
  have HX := Lib.hid (And.intro hM (And.intro hq (And.intro hSl hksz)))
  have HN := Lib.hid hN
  have HTS := Lib.hid (And.intro hT hS)
  generalize strOf T = st at *
  generalize Lib.bytesWorld (w.alloc (.cells #[.string ⟨#[]⟩, .slice none 0 0] 24)) 5 k = w2 at *
  have hmf : 1 ≤ 8 - 1 - 1 := by omega
  clear hsh h4 hg hb4 hN hM hT hS hSl hr hq hksz
  by_cases hcap : cap = 4 + N
  · subst hcap
    refine (callsIn_wide (n := 8)).1 ?_
    refine callsIn_of_wp_marks Try.func12 rfl trivial ?_ rfl
    simp only [Try.ntmps12, List.size_toArray, List.length_cons, List.length_nil, Nat.reduceAdd, Nat.reduceSub, Array.replicate_succ, Array.replicate_zero, List.push_toArray, List.append_toArray, List.nil_append, List.cons_append]
    gi_wp2
    refine ⟨trivial, (callsIn_wide.2 HG0.out).mono ?_⟩
    rintro e w3 ⟨rfl, rfl⟩
    gi_wp2
    refine ⟨trivial, (callsIn_wide.2 (chunk_any _ _ _ _)).mono ?_⟩
    rintro e w4 ⟨rfl, rfl⟩
    gi_wp2
    have hA2 : Below w2.heap.size w2 (((w2.alloc (.cells #[.string st, .slice none 0 0] 24)).alloc (.cells #[.slice (some ⟨w.heap.size + 1, 0, none⟩) (4 * q) 0] 38)).alloc (.cells #[.int .i64 4] 3)) := ((((Below.refl _ w2).alloc (Nat.le_refl _) _).alloc (by simp) _).alloc (by simp; omega) _)
    have e1 : (w2.alloc (.cells #[.string st, .slice none 0 0] 24)).heap.size = w2.heap.size + 1 := by simp
    have e2 : ((w2.alloc (.cells #[.string st, .slice none 0 0] 24)).alloc (.cells #[.slice (some ⟨w.heap.size + 1, 0, none⟩) (4 * q) 0] 38)).heap.size = w2.heap.size + 1 + 1 := by simp
    have e3 : (((w2.alloc (.cells #[.string st, .slice none 0 0] 24)).alloc (.cells #[.slice (some ⟨w.heap.size + 1, 0, none⟩) (4 * q) 0] 38)).alloc (.cells #[.int .i64 4] 3)).heap.size = w2.heap.size + 1 + 1 + 1 := by simp
    have b1 := (Blk.new w2 24 #[.string st, .slice none 0 0]).alloc (.cells #[.slice (some ⟨w.heap.size + 1, 0, none⟩) (4 * q) 0] 38)
    have b1 := b1.alloc (.cells #[.int .i64 4] 3)
    have b2 := (Blk.new (w2.alloc (.cells #[.string st, .slice none 0 0] 24)) 38 #[.slice (some ⟨w.heap.size + 1, 0, none⟩) (4 * q) 0]).alloc (.cells #[.int .i64 4] 3)
    have b3 := Blk.new ((w2.alloc (.cells #[.string st, .slice none 0 0] 24)).alloc (.cells #[.slice (some ⟨w.heap.size + 1, 0, none⟩) (4 * q) 0] 38)) 3 #[.int .i64 4]
    rw [e1] at b2
    rw [e2] at b3
    have hc0 := b2.cell 0
    have hc4 := b3.cell 0
    have hsl := Hsl.out
    have hB2s := HB2.out.size
    have Hsz := Lib.hid e3
    have HI0 : Hid (SpQ w (((w2.alloc (.cells #[.string st, .slice none 0 0] 24)).alloc (.cells #[.slice (some ⟨w.heap.size + 1, 0, none⟩) (4 * q) 0] 38)).alloc (.cells #[.int .i64 4] 3)).heap.size w2.heap.size st L [] (((w2.alloc (.cells #[.string st, .slice none 0 0] 24)).alloc (.cells #[.slice (some ⟨w.heap.size + 1, 0, none⟩) (4 * q) 0] 38)).alloc (.cells #[.int .i64 4] 3))) :=
      Lib.hid ⟨Hr2.out.below hA2 Hr2.out.lt, Hin.out.below hA2, ⟨_, b1, World.ownsRow_nil _ _ _ _⟩, HB2.out.trans (hA2.mono HB2.out.size), Nat.le_refl _⟩
    have hA3 : Hid (w2.heap.size = w.heap.size + 1 + 1) := Hsl
    clear b1 b2 b3 e1 e2 e3 hA2 hcv
    generalize ((w2.alloc (.cells #[.string st, .slice none 0 0] 24)).alloc (.cells #[.slice (some ⟨w.heap.size + 1, 0, none⟩) (4 * q) 0] 38)).alloc (.cells #[.int .i64 4] 3) = w5 at *
    have HB2s := Lib.hid hB2s
    clear hsl hB2s
    refine wpIn_rangeFunc_ownG (F := Fence.wide) rfl (by omega) (gf := 75) (lb := #[.pointer (some ⟨w2.heap.size + 1, 0, none⟩), .pointer (some ⟨w2.heap.size + 1 + 1, 0, none⟩)]) rfl trivial (enters_of Try.func75 (by kernel_rfl) rfl)
      (chunk_stops Fence.wide 7 trivial rfl (by omega) (w2.heap.size + 1) (w2.heap.size + 1 + 1) (w.heap.size + 1) (4 + N) q 0 _ (fun h => absurd h (by have := HX.out; omega)) (by have := HX.out; omega) (by have := HX.out; omega) w5 (by have := Hsz.out; omega) (by have := Hsz.out; omega) hc0 hc4)
      chKp_t (chKp_b (by have := Hsz.out; omega) (by have := Hsz.out; omega)) (Below.refl _ _) (fun _ => rfl)
      (fun pre W => SpQ w w5.heap.size w2.heap.size st L (pre.map (fun x : Fin q => be ((S.drop (4 * x.1)).take 4))) W)
      (fun _ _ _ => False)
      (SpQ.own w w5.heap.size w5.heap.size w2.heap.size st L (fun pre : List (Fin q) => pre.map (fun x => be ((S.drop (4 * x.1)).take 4))) (by have := Hsz.out; have := HB2s.out; omega))
      (fun _ _ _ _ _ hs _ _ => hs) HI0.out ?actAtB ?assign ?body ?done ?stop
    case assign =>
      intro l x W K hK
      gi_wp2
      exact hK
    case body =>
      rintro l pre x W hQ hlt
      exact absurd x.2 (by have := HX.out; omega)
    case done =>
      rintro D ys W hD rfl hQ hK
      have hfm : (List.finRange q).map (fun x : Fin q => be ((S.drop (4 * x.1)).take 4)) = fours q S := by
        have := fours_map q S q (Nat.le_refl _)
        rw [List.take_of_length_le (by simp)] at this
        exact this
      rw [hfm] at hQ
      obtain ⟨u, hs, hu⟩ := hQ.s
      have hfl := fours_len q S
      obtain ⟨pu, cu, hue, husl⟩ := (OwnI.of_owns hu).slice IntU.still (S' := fun _ => True) (fun _ _ _ => trivial) (fun _ _ => trivial)
      have Hf := Lib.hid (fair_any (fun _ => True) ⟨st, fours q S⟩ pu cu W husl)
      have Hsp : Hid (splitK L = if fairK ⟨st, fours q S⟩ = true then (⟨st, fours q S⟩, true) else (stNo, false)) := Lib.hid (by
        unfold splitK
        rw [HP.out]
        by_cases hf : fairK ⟨st, fours q S⟩ = true
        · rw [if_pos ⟨HSh.out, hf⟩, if_pos hf]
        · rw [if_neg (fun h => hf h.2), if_neg hf])
      unfold stArg at Hf
      dsimp only at Hf
      rw [hfl] at hue Hf
      subst hue
      generalize fairK ⟨st, fours q S⟩ = fv at *
      have hrow := owns_row hu hK
      have hsl := Hsl.out
      have h5 := Hsz.out
      have HSl : Hid (∀ (W6 : World), Below W.heap.size W W6 → SliceS 1 IntU (fun j => w.heap.size < j ∧ j ≠ D) W6 [.slice pu (fours q S).length cu] (fours q S)) := Lib.hid (fun W6 hb => by
        obtain ⟨p', c', e', h'⟩ := (OwnI.of_owns hu).slice IntU.still (S' := fun j => w.heap.size < j ∧ j ≠ D) (fun k _ hk => hk.elim) (fun k hk => ⟨by have := (hrow k hk).1; omega, (hrow k hk).2⟩)
        rw [hfl] at e'
        injection e' with e1 e2 e3
        subst e1 e3
        exact h'.below IntU.still hb)
      have hc := hs.cell
      have Hs3 := Lib.hid hs
      have HQ := Lib.hid hQ
      have HK := Lib.hid hK
      have HfinF := Lib.hid (fun (W6 : World) (hb : Below W.heap.size W W6) => split_fin (w0 := w) (W := W6) (D := D) (T := ⟨#[]⟩) (p := none) (c := 0) (l := []) (hQ.r.below hb hQ.r.lt) (hQ.bel.trans (hb.mono hQ.bel.size)) (SliceS.empty none 0 (by simp [maxLen])) ((hb.block D (Array.getElem?_eq_some_iff.1 hK).1).trans hK) (by omega) false)
      have HfinT := Lib.hid (fun (W6 : World) (hb : Below W.heap.size W W6) => split_fin (w0 := w) (W := W6) (D := D) (T := st) (p := pu) (c := cu) (l := fours q S) (hQ.r.below hb hQ.r.lt) (hQ.bel.trans (hb.mono hQ.bel.size)) (HSl.out W6 hb) ((hb.block D (Array.getElem?_eq_some_iff.1 hK).1).trans hK) (by omega) true)
      rw [hfl] at HfinT
      clear hs hu husl hfm hQ hK hrow hsl h5
      gi_wp2
      refine ⟨trivial, (callsIn_wide.2 Hf.out).mono ?_⟩
      rintro e W6 ⟨rfl, hb6⟩
      have c2 := (HQ.out.r.below hb6 HQ.out.r.lt).cell
      have f2 := (HQ.out.r.below hb6 HQ.out.r.lt).frozen
      have c3 : ∀ i, W6.cell? ⟨w2.heap.size, i, none⟩ = (#[.string st, .slice pu q cu] : Array Value)[i]? := (Hs3.out.below hb6 Hs3.out.lt).cell
      cases fv with
      | false =>
        have hF := HfinF.out W6 hb6
        have Hsp' : Hid (splitK L = (stNo, false)) := Lib.hid (by have := Hsp.out; simpa using this)
        have hcf := hF.2.1
        have HF := Lib.hid hF
        clear hF hb6 HfinT HfinF
        dsimp only [List.length_nil] at hcf
        gi_wp2
        refine ⟨by simp, .inl ⟨_, _, rfl, run_takeDeferred HF.out.1, ?_⟩⟩
        refine ⟨.tuple #[.agg #[.string ⟨#[]⟩, .slice none 0 0], .bool false], by simp [results, Try.results12, go_sem, hcf], ?_⟩
        rw [Hsp'.out]
        exact HF.out.2.2
      | true =>
        have hF := HfinT.out W6 hb6
        have Hsp' : Hid (splitK L = (⟨st, fours q S⟩, true)) := Lib.hid (by have := Hsp.out; simpa using this)
        have hcf := hF.2.1
        have HF := Lib.hid hF
        clear hF hb6 HfinT HfinF
        gi_wp2
        refine ⟨by simp, .inl ⟨_, _, rfl, run_takeDeferred HF.out.1, ?_⟩⟩
        refine ⟨.tuple #[.agg #[.string st, .slice pu q cu], .bool true], by simp [results, Try.results12, go_sem, hcf], ?_⟩
        rw [Hsp'.out]
        exact HF.out.2.2
    case stop =>
      rintro D c pre W _ _ h _
      exact h.elim
  · refine (callsIn_wide (n := 8)).1 ?_
    refine callsIn_of_wp_marks Try.func12 rfl trivial ?_ rfl
    simp only [Try.ntmps12, List.size_toArray, List.length_cons, List.length_nil, Nat.reduceAdd, Nat.reduceSub, Array.replicate_succ, Array.replicate_zero, List.push_toArray, List.append_toArray, List.nil_append, List.cons_append]
    gi_wp2
    refine ⟨trivial, (callsIn_wide.2 HG0.out).mono ?_⟩
    rintro e w3 ⟨rfl, rfl⟩
    gi_wp2
    refine ⟨trivial, (callsIn_wide.2 (chunk_any _ _ _ _)).mono ?_⟩
    rintro e w4 ⟨rfl, rfl⟩
    gi_wp2
    have hA2 : Below w2.heap.size w2 (((w2.alloc (.cells #[.string st, .slice none 0 0] 24)).alloc (.cells #[.slice (some ⟨w.heap.size + 1, 4 + N, none⟩) (4 * q) (cap - (4 + N))] 38)).alloc (.cells #[.int .i64 4] 3)) := ((((Below.refl _ w2).alloc (Nat.le_refl _) _).alloc (by simp) _).alloc (by simp; omega) _)
    have e1 : (w2.alloc (.cells #[.string st, .slice none 0 0] 24)).heap.size = w2.heap.size + 1 := by simp
    have e2 : ((w2.alloc (.cells #[.string st, .slice none 0 0] 24)).alloc (.cells #[.slice (some ⟨w.heap.size + 1, 4 + N, none⟩) (4 * q) (cap - (4 + N))] 38)).heap.size = w2.heap.size + 1 + 1 := by simp
    have e3 : (((w2.alloc (.cells #[.string st, .slice none 0 0] 24)).alloc (.cells #[.slice (some ⟨w.heap.size + 1, 4 + N, none⟩) (4 * q) (cap - (4 + N))] 38)).alloc (.cells #[.int .i64 4] 3)).heap.size = w2.heap.size + 1 + 1 + 1 := by simp
    have b1 := (Blk.new w2 24 #[.string st, .slice none 0 0]).alloc (.cells #[.slice (some ⟨w.heap.size + 1, 4 + N, none⟩) (4 * q) (cap - (4 + N))] 38)
    have b1 := b1.alloc (.cells #[.int .i64 4] 3)
    have b2 := (Blk.new (w2.alloc (.cells #[.string st, .slice none 0 0] 24)) 38 #[.slice (some ⟨w.heap.size + 1, 4 + N, none⟩) (4 * q) (cap - (4 + N))]).alloc (.cells #[.int .i64 4] 3)
    have b3 := Blk.new ((w2.alloc (.cells #[.string st, .slice none 0 0] 24)).alloc (.cells #[.slice (some ⟨w.heap.size + 1, 4 + N, none⟩) (4 * q) (cap - (4 + N))] 38)) 3 #[.int .i64 4]
    rw [e1] at b2
    rw [e2] at b3
    have hc0 := b2.cell 0
    have hc4 := b3.cell 0
    have hsl := Hsl.out
    have hB2s := HB2.out.size
    have Hsz := Lib.hid e3
    have HI0 : Hid (SpQ w (((w2.alloc (.cells #[.string st, .slice none 0 0] 24)).alloc (.cells #[.slice (some ⟨w.heap.size + 1, 4 + N, none⟩) (4 * q) (cap - (4 + N))] 38)).alloc (.cells #[.int .i64 4] 3)).heap.size w2.heap.size st L [] (((w2.alloc (.cells #[.string st, .slice none 0 0] 24)).alloc (.cells #[.slice (some ⟨w.heap.size + 1, 4 + N, none⟩) (4 * q) (cap - (4 + N))] 38)).alloc (.cells #[.int .i64 4] 3))) :=
      Lib.hid ⟨Hr2.out.below hA2 Hr2.out.lt, Hin.out.below hA2, ⟨_, b1, World.ownsRow_nil _ _ _ _⟩, HB2.out.trans (hA2.mono HB2.out.size), Nat.le_refl _⟩
    have hA3 : Hid (w2.heap.size = w.heap.size + 1 + 1) := Hsl
    clear b1 b2 b3 e1 e2 e3 hA2 hcv
    generalize ((w2.alloc (.cells #[.string st, .slice none 0 0] 24)).alloc (.cells #[.slice (some ⟨w.heap.size + 1, 4 + N, none⟩) (4 * q) (cap - (4 + N))] 38)).alloc (.cells #[.int .i64 4] 3) = w5 at *
    have HB2s := Lib.hid hB2s
    clear hsl hB2s
    refine wpIn_rangeFunc_ownG (F := Fence.wide) rfl (by omega) (gf := 75) (lb := #[.pointer (some ⟨w2.heap.size + 1, 0, none⟩), .pointer (some ⟨w2.heap.size + 1 + 1, 0, none⟩)]) rfl trivial (enters_of Try.func75 (by kernel_rfl) rfl)
      (chunk_stops Fence.wide 7 trivial rfl (by omega) (w2.heap.size + 1) (w2.heap.size + 1 + 1) (w.heap.size + 1) (4 + N) q (cap - (4 + N)) _ (fun _ => rfl) (by have := HX.out; omega) (by have := HX.out; omega) w5 (by have := Hsz.out; omega) (by have := Hsz.out; omega) hc0 hc4)
      chKp_t (chKp_b (by have := Hsz.out; omega) (by have := Hsz.out; omega)) (Below.refl _ _) (fun _ => rfl)
      (fun pre W => SpQ w w5.heap.size w2.heap.size st L (pre.map (fun x : Fin q => be ((S.drop (4 * x.1)).take 4))) W)
      (fun _ _ _ => False)
      (SpQ.own w w5.heap.size w5.heap.size w2.heap.size st L (fun pre : List (Fin q) => pre.map (fun x => be ((S.drop (4 * x.1)).take 4))) (by have := Hsz.out; have := HB2s.out; omega))
      (fun _ _ _ _ _ hs _ _ => hs) HI0.out ?actAt ?assign ?body ?done ?stop
    case assign =>
      intro l x W K hK
      gi_wp2
      exact hK
    case body =>
      rintro l pre x W hQ hlt
      have h5 := Hsz.out
      have hsl := Hsl.out
      obtain ⟨u, hs, hu⟩ := hQ.s
      have hxq := x.2
      have hXq := HX.out
      have hSd : (L.drop (4 + N + 4 * x.1)).take 4 = (S.drop (4 * x.1)).take 4 := by rw [← HTS.out.2, List.drop_drop, List.drop_drop]; congr 2; omega
      have hcl : ((S.drop (4 * x.1)).take 4).length = 4 := by rw [List.length_take, List.length_drop]; omega
      have hcb : BytesIn W (some ⟨w.heap.size + 1, 4 + N + 4 * x.1, none⟩) ((S.drop (4 * x.1)).take 4) := by
        have := (hQ.y.drop (4 + N + 4 * x.1)).take 4
        rw [hSd, Nat.zero_add] at this
        exact this
      have hgx := get_any (some ⟨w.heap.size + 1, 4 + N + 4 * x.1, none⟩) ((S.drop (4 * x.1)).take 4) 4 0 4 W (by rw [hcl]; exact Nat.le_refl _) (by simp [maxLen]) hcb
      have hgv : getV ((S.drop (4 * x.1)).take 4) 0 4 = (be ((S.drop (4 * x.1)).take 4), 0) := by
        have := getV_yes (l := (S.drop (4 * x.1)).take 4) (at' := 0) (size := 4) rfl (by omega) (by rw [hcl]; omega)
        rw [this]
        show (be ((((S.drop (4 * x.1)).take 4).drop 0).take 4), (0 : Int)) = _
        rw [List.drop_zero, List.take_of_length_le (by omega)]
      rw [hcl, hgv] at hgx
      dsimp only at hgx
      have HGx := Lib.hid hgx
      have hml : (pre.map (fun x : Fin q => be ((S.drop (4 * x.1)).take 4))).length = pre.length := List.length_map _
      have hma : (pre ++ [x]).map (fun x : Fin q => be ((S.drop (4 * x.1)).take 4)) = pre.map (fun x : Fin q => be ((S.drop (4 * x.1)).take 4)) ++ [be ((S.drop (4 * x.1)).take 4)] := by rw [List.map_append]; rfl
      have Hma := Lib.hid hma
      have hBW := hQ.sz
      generalize be ((S.drop (4 * x.1)).take 4) = v at *
      generalize pre.map (fun x : Fin q => be ((S.drop (4 * x.1)).take 4)) = lp at *
      have hc := hs.cell
      have Hs := Lib.hid hs
      have Hu := Lib.hid hu
      obtain ⟨i0, hi, hz0, hz1, hz2⟩ := info_parts Try.info3
      have hlpq : lp.length ≤ 100000 := by omega
      have Hput := Lib.hid (fun (w1 : World) (u' : Value) hown hgr => hQ.put (w1 := w1) (u' := u') (x := v) (tmp := .cells #[.int .i64 v] 3) (A := w2.heap.size + 1) (B := w2.heap.size + 1 + 1) hs hu (by omega) (by omega) (by omega) (by omega) (by omega) (by omega) hown hgr)
      have hbs : w5.heap.size ≤ (W.alloc (.cells #[.int .i64 v] 3)).heap.size := by rw [World.size_alloc]; omega
      clear hBW hml h5 hsl
      clear hs hu hQ hgx hgv hcb hcl hSd hma hXq
      gi_wp2
      refine ⟨trivial, (CallsIn.inRound l (callsIn_wide.2 HGx.out)).mono ?_⟩
      rintro e w6 ⟨rfl, rfl⟩
      gi_wp2_with (gi_at_builtin; refine wpListIn_append_own _ rfl _ _ 22 rfl w5.heap.size 3 i0 (.int .i64 0) 1 8 Try.underlying22 hi hz0 hz1 hz2 rfl (by decide) _ _ _ rfl (Hu.out.alloc _) ⟨W.heap.size, 0, none⟩ 1 1 [.int .i64 v] rfl rfl (cell_one_new _ _ _) (by simp [Value.oneCell']) (by simp only [maxLen]; omega) (by omega) hbs ?_; intro v' w1 hown' hgrow _; obtain ⟨g', cap', rfl⟩ := ownsRow_succ hown'; obtain ⟨hs1, hQ1, hk1, hp1⟩ := Hput.out _ _ hown' hgrow; have hc1 := hs1.cell; have hf1 := hs1.frozen; have HQ1 := Lib.hid hQ1; have HK1 := Lib.hid (And.intro hk1 hp1); clear hs1 hQ1 hk1 hp1 hown' hgrow hc)
      exact ⟨HK1.out.1.from _, HK1.out.2, by dsimp only; rw [Hma.out]; exact HQ1.out⟩
    case done =>
      rintro D ys W hD rfl hQ hK
      have hfm : (List.finRange q).map (fun x : Fin q => be ((S.drop (4 * x.1)).take 4)) = fours q S := by
        have := fours_map q S q (Nat.le_refl _)
        rw [List.take_of_length_le (by simp)] at this
        exact this
      rw [hfm] at hQ
      obtain ⟨u, hs, hu⟩ := hQ.s
      have hfl := fours_len q S
      obtain ⟨pu, cu, hue, husl⟩ := (OwnI.of_owns hu).slice IntU.still (S' := fun _ => True) (fun _ _ _ => trivial) (fun _ _ => trivial)
      have Hf := Lib.hid (fair_any (fun _ => True) ⟨st, fours q S⟩ pu cu W husl)
      have Hsp : Hid (splitK L = if fairK ⟨st, fours q S⟩ = true then (⟨st, fours q S⟩, true) else (stNo, false)) := Lib.hid (by
        unfold splitK
        rw [HP.out]
        by_cases hf : fairK ⟨st, fours q S⟩ = true
        · rw [if_pos ⟨HSh.out, hf⟩, if_pos hf]
        · rw [if_neg (fun h => hf h.2), if_neg hf])
      unfold stArg at Hf
      dsimp only at Hf
      rw [hfl] at hue Hf
      subst hue
      generalize fairK ⟨st, fours q S⟩ = fv at *
      have hrow := owns_row hu hK
      have hsl := Hsl.out
      have h5 := Hsz.out
      have HSl : Hid (∀ (W6 : World), Below W.heap.size W W6 → SliceS 1 IntU (fun j => w.heap.size < j ∧ j ≠ D) W6 [.slice pu (fours q S).length cu] (fours q S)) := Lib.hid (fun W6 hb => by
        obtain ⟨p', c', e', h'⟩ := (OwnI.of_owns hu).slice IntU.still (S' := fun j => w.heap.size < j ∧ j ≠ D) (fun k _ hk => hk.elim) (fun k hk => ⟨by have := (hrow k hk).1; omega, (hrow k hk).2⟩)
        rw [hfl] at e'
        injection e' with e1 e2 e3
        subst e1 e3
        exact h'.below IntU.still hb)
      have hc := hs.cell
      have Hs3 := Lib.hid hs
      have HQ := Lib.hid hQ
      have HK := Lib.hid hK
      have HfinF := Lib.hid (fun (W6 : World) (hb : Below W.heap.size W W6) => split_fin (w0 := w) (W := W6) (D := D) (T := ⟨#[]⟩) (p := none) (c := 0) (l := []) (hQ.r.below hb hQ.r.lt) (hQ.bel.trans (hb.mono hQ.bel.size)) (SliceS.empty none 0 (by simp [maxLen])) ((hb.block D (Array.getElem?_eq_some_iff.1 hK).1).trans hK) (by omega) false)
      have HfinT := Lib.hid (fun (W6 : World) (hb : Below W.heap.size W W6) => split_fin (w0 := w) (W := W6) (D := D) (T := st) (p := pu) (c := cu) (l := fours q S) (hQ.r.below hb hQ.r.lt) (hQ.bel.trans (hb.mono hQ.bel.size)) (HSl.out W6 hb) ((hb.block D (Array.getElem?_eq_some_iff.1 hK).1).trans hK) (by omega) true)
      rw [hfl] at HfinT
      clear hs hu husl hfm hQ hK hrow hsl h5
      gi_wp2
      refine ⟨trivial, (callsIn_wide.2 Hf.out).mono ?_⟩
      rintro e W6 ⟨rfl, hb6⟩
      have c2 := (HQ.out.r.below hb6 HQ.out.r.lt).cell
      have f2 := (HQ.out.r.below hb6 HQ.out.r.lt).frozen
      have c3 : ∀ i, W6.cell? ⟨w2.heap.size, i, none⟩ = (#[.string st, .slice pu q cu] : Array Value)[i]? := (Hs3.out.below hb6 Hs3.out.lt).cell
      cases fv with
      | false =>
        have hF := HfinF.out W6 hb6
        have Hsp' : Hid (splitK L = (stNo, false)) := Lib.hid (by have := Hsp.out; simpa using this)
        have hcf := hF.2.1
        have HF := Lib.hid hF
        clear hF hb6 HfinT HfinF
        dsimp only [List.length_nil] at hcf
        gi_wp2
        refine ⟨by simp, .inl ⟨_, _, rfl, run_takeDeferred HF.out.1, ?_⟩⟩
        refine ⟨.tuple #[.agg #[.string ⟨#[]⟩, .slice none 0 0], .bool false], by simp [results, Try.results12, go_sem, hcf], ?_⟩
        rw [Hsp'.out]
        exact HF.out.2.2
      | true =>
        have hF := HfinT.out W6 hb6
        have Hsp' : Hid (splitK L = (⟨st, fours q S⟩, true)) := Lib.hid (by have := Hsp.out; simpa using this)
        have hcf := hF.2.1
        have HF := Lib.hid hF
        clear hF hb6 HfinT HfinF
        gi_wp2
        refine ⟨by simp, .inl ⟨_, _, rfl, run_takeDeferred HF.out.1, ?_⟩⟩
        refine ⟨.tuple #[.agg #[.string st, .slice pu q cu], .bool true], by simp [results, Try.results12, go_sem, hcf], ?_⟩
        rw [Hsp'.out]
        exact HF.out.2.2
    case stop =>
      rintro D c pre W _ _ h _
      exact h.elim

end Go.Proofs.Ytldjfmddjbdciaa
