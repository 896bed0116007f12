/-
  First messages (layer 5): pairs, as values and in memory; the pairs of a scan, of the program.
-/
import Derived.Test.YtjfhpafaopeogaaScanI
import Derived.Test.YtjfhpafaopeogaaShape
import Derived.WalkMore
namespace Go.Proofs.Ytjfhpafaopeogaa
open Go.RowKit
set_option linter.unusedVariables false
set_option linter.unusedSimpArgs false

structure PrV where
  name : ByteArray
  value : ByteArray
def PrS : Rd PrV := fun _ _ cs x => cs = [.string x.name, .string x.value]
theorem PrS.still : Still PrS := fun _ _ _ _ _ _ h _ => h
theorem PrS.one (S : Nat → Prop) (w : World) (cs : List Value) (x : PrV) (h : PrS S w cs x) : ∀ u ∈ cs, u.oneCell' = true := by
  unfold PrS at h
  subst h
  intro u hu
  simp only [List.mem_cons, List.not_mem_nil, or_false] at hu
  rcases hu with rfl | rfl <;> rfl
abbrev OwnPr (B : Nat) (w : World) (v : Value) (xs : List PrV) : Prop := OwnS B 150 2 PrS (fun k => B ≤ k) w v xs
theorem Try.info150 : (Try.prog.info? 150).map (fun i => (i.zero, i.size, i.bytes)) = some (some (.agg #[.string ⟨#[]⟩, .string ⟨#[]⟩]), 2, 32) := by kernel_rfl
theorem info_pr : ∃ i z, Try.prog.info? 150 = some i ∧ i.zero = some z ∧ i.size = 2 ∧ i.bytes = 32 ∧ z.cells.size = 2 := by
  obtain ⟨i0, hi, hz0, hz1, hz2⟩ := info_parts Try.info150
  exact ⟨i0, _, hi, hz0, hz1, hz2, rfl⟩

theorem ownPr_below {B : Nat} {w w' : World} {v : Value} {xs : List PrV} (h : OwnPr B w v xs) (hb : Below w.heap.size w w') : OwnPr B w' v xs :=
  OwnS.touch PrS.still h (Touch.of_below (p := fun _ => False) hb) (fun _ _ e => e) (fun _ _ hk _ => ⟨hk, fun e => e⟩)

/-- A pair behind pairs. -/
theorem step_appendPr {ops : Array Oper} {rest : List Oper} {o : Oper} {a : Act} {Q : Exit → Act → World → Prop} (w : World) (hgd : o.guard = none) (s y : Operand)
    (ho : o.op = .call { callee := .builtin .append, args := #[s, y], argTypes := #[92, 92] })
    (B : Nat) (v : Value) (xs : List PrV) (hsv : a.eval s = v) (hown : OwnPr B w v xs) (p : Option Addr) (n c : Nat) (ys : List PrV) (hx : a.eval y = .slice p n c) (hs : SliceS 2 PrS (fun k => B ≤ k ∧ rowOf v ≠ some k) w [.slice p n c] ys)
    (hroom : xs.length + ys.length ≤ 1000000) (hbase : B ≤ w.heap.size)
    (h : ∀ v' w', OwnPr B w' v' (xs ++ ys) → w.grownBy w' (rowOf v) → (∀ k, rowOf v' = some k → rowOf v = some k ∨ w.heap.size ≤ k) → wpList Try.prog ops Q rest (a.put o.dst v') w') : wpList Try.prog ops Q (o :: rest) a w :=
  wpList_append_S w hgd s y 92 92 ho B 150 150 2 32 Try.underlying92 Try.underlying92 info_pr PrS PrS.still PrS.one (fun k => B ≤ k) v xs hsv hown p n c ys hx hs
    (by omega) (by simp only [maxLen]; omega) hbase h

/-- The pairs of a scan, up to an empty name; what is left, and whether it is bad. -/
def pairsR : Nat → List UInt8 → Bool → List PrV × List UInt8 × Bool
  | 0, _, _ => ([], [], true)
  | n + 1, L, bad =>
    if textV L bad = ⟨#[]⟩ then ([], nx (textOk L bad) (L.drop ((Lib.indexByte L 0).toNat + 1)) [], !textOk L bad)
    else
      let R := nx (textOk L bad) (L.drop ((Lib.indexByte L 0).toNat + 1)) []
      let q := pairsR n (nx (textOk R (!textOk L bad)) (R.drop ((Lib.indexByte R 0).toNat + 1)) []) (!textOk R (!textOk L bad))
      (⟨textV L bad, textV R (!textOk L bad)⟩ :: q.1, q.2)

def lenP : Value → Nat
  | .slice _ n _ => n
  | _ => 0

theorem nx_len {ok : Bool} {L : List UInt8} (k : Nat) : (nx ok (L.drop (k + 1)) []).length ≤ L.length - 1 := by
  unfold nx
  split
  · rw [List.length_drop]; omega
  · simp

theorem str_empty {s : ByteArray} : s.toList.isEmpty = true ↔ s = ⟨#[]⟩ := by
  have h : s = strOf s.data.toList := by simp [strOf]
  constructor
  · intro e
    rw [h, strOf_toList] at e
    have e' : s.data.toList = [] := by simpa using e
    rw [h, e']
    rfl
  · rintro rfl
    show (strOf []).toList.isEmpty = true
    rw [strOf_toList]
    rfl
theorem textV_some {L : List UInt8} {bad : Bool} (h : textV L bad ≠ ⟨#[]⟩) : L ≠ [] := by
  intro e
  subst e
  apply h
  unfold textV textOk
  simp [Lib.indexByte]

theorem pairsR_len : ∀ (n : Nat) (L : List UInt8) (bad : Bool), (pairsR n L bad).1.length ≤ n
  | 0, _, _ => by simp [pairsR]
  | n + 1, L, bad => by
    unfold pairsR
    split
    · simp
    · have := pairsR_len n (nx (textOk (nx (textOk L bad) (L.drop ((Lib.indexByte L 0).toNat + 1)) []) (!textOk L bad)) ((nx (textOk L bad) (L.drop ((Lib.indexByte L 0).toNat + 1)) []).drop ((Lib.indexByte (nx (textOk L bad) (L.drop ((Lib.indexByte L 0).toNat + 1)) []) 0).toNat + 1)) []) (!textOk (nx (textOk L bad) (L.drop ((Lib.indexByte L 0).toNat + 1)) []) (!textOk L bad))
      simp only [List.length_cons]
      omega

set_option maxRecDepth 100000 in
set_option maxHeartbeats 4000000 in
theorem pairs_any (sb g : Nat) (L : List UInt8) (bad : Bool) (w : World) (h : ScanO w sb g L bad) (hL : L.length ≤ 100000) :
    Calls Try.prog 90 #[.pointer (some ⟨sb, 0, none⟩)] w fun e w' => ∃ vo, e = .returned vo ∧ OwnPr w.heap.size w' vo (pairsR (L.length + 1) L bad).1 ∧ ScanO w' sb g (pairsR (L.length + 1) L bad).2.1 (pairsR (L.length + 1) L bad).2.2 ∧ Touch (fun i => i = sb) w w' := by
  have hsb := h.lt
  have hg : L ≠ [] → g < w.heap.size := fun e => h.ltg e
  have Hg := Lib.hid hg
  have H0 := Lib.hid h
  obtain ⟨P, hP⟩ : ∃ P, pairsR (L.length + 1) L bad = P := ⟨_, rfl⟩
  have hPl : P.1.length ≤ L.length + 1 := by rw [← hP]; exact pairsR_len _ _ _
  rw [hP]
  have HP := Lib.hid hP
  clear h hg hP
  go_enter Try.func90, Try.ntmps90
  go_wp2_with fail
  go_step3
  go_wp2_with fail
  go_step3
  go_wp2_with fail
  go_loopw [3] (fun u wr => ∃ (m : Nat) (T : List UInt8) (b : Bool) (xs : List PrV), T.length < m ∧ (T ≠ [] → L ≠ []) ∧ xs ++ (pairsR m T b).1 = P.1 ∧ (pairsR m T b).2 = P.2 ∧ OwnPr w.heap.size wr u xs ∧ ScanO wr sb g T b ∧ Touch (fun i => i = sb) w wr) (fun u _ => P.1.length + 1 - lenP u)
  case atStart => exact ⟨L.length + 1, L, bad, [], by omega, fun e => e, by rw [HP.out]; rfl, by rw [HP.out], OwnS.empty _, H0.out, Touch.refl _ _⟩
  case round =>
    obtain ⟨m, T, b, xs, hm, hTL, hx, hr, ho, hs, hT⟩ := hrel
    obtain ⟨m, rfl⟩ : ∃ m', m = m' + 1 := ⟨m - 1, by omega⟩
    have hz := hT.size
    have Hx := Lib.hid (And.intro hx (And.intro hr hTL))
    have Ho := Lib.hid ho
    have HT := Lib.hid hT
    have hlx := congrArg List.length hx
    rw [List.length_append] at hlx
    have Hrow := Lib.hid ho.row
    have hlen : lenP u3 = xs.length := by
      obtain ⟨p, c, e, _⟩ := ho.slice PrS.still (S' := fun _ => True) (fun _ _ _ => trivial) (fun _ _ => trivial)
      rw [e]; rfl
    have Hlen := Lib.hid hlen
    have Ht1 := Lib.hid (scanText_any sb g T b wr hs)
    clear hx hr hTL ho hs hT hlen
    go_wp2_with fail
    refine Ht1.out.mono ?_
    rintro e w1 ⟨rfl, hs1, hT1⟩
    have hz1 := hT1.size
    by_cases hn : textV T b = ⟨#[]⟩
    · have hend : (pairsR (m + 1) T b) = ([], nx (textOk T b) (T.drop ((Lib.indexByte T 0).toNat + 1)) [], !textOk T b) := by
        unfold pairsR; rw [if_pos hn]
      have hx := Hx.out
      rw [hend] at hx
      have Hend := Lib.hid (And.intro hx (And.intro hs1 hT1))
      rw [hn]
      clear hx hend hs1 hT1 hn Hx Ht1
      go_wp2_with fail
      obtain ⟨p3, c3, e3, _⟩ := Ho.out.slice PrS.still (S' := fun _ => True) (fun _ _ _ => trivial) (fun _ _ => trivial)
      have Ho1 := Lib.hid (Ho.out.touch (S' := fun k => w.heap.size ≤ k) PrS.still Hend.out.2.2 (fun k hk => by have := (Hrow.out k hk).1; omega) (fun k _ hk _ => ⟨hk, fun e => by omega⟩))
      rw [Exit.noGoto_ret]
      go_ret
      have hE := Hend.out
      obtain ⟨⟨h1, h2, _⟩, h3, h4⟩ := hE
      simp only [List.append_nil] at h1
      rw [← h1, ← h2]
      exact ⟨_, rfl, Ho1.out, h3, HT.out.trans h4⟩
    · have hs2 := scanText_any sb g _ _ w1 hs1
      obtain ⟨R, hR⟩ : ∃ R, nx (textOk T b) (T.drop ((Lib.indexByte T 0).toNat + 1)) [] = R := ⟨_, rfl⟩
      obtain ⟨ok, hok⟩ : ∃ ok, textOk T b = ok := ⟨_, rfl⟩
      have hRl : R.length ≤ T.length - 1 := by rw [← hR]; exact nx_len _
      have hT0 : 0 < T.length := List.length_pos_iff.2 (textV_some hn)
      have hstep : pairsR (m + 1) T b = (⟨textV T b, textV R (!ok)⟩ :: (pairsR m (nx (textOk R (!ok)) (R.drop ((Lib.indexByte R 0).toNat + 1)) []) (!textOk R (!ok))).1, (pairsR m (nx (textOk R (!ok)) (R.drop ((Lib.indexByte R 0).toNat + 1)) []) (!textOk R (!ok))).2) := by
        rw [pairsR, if_neg hn, ← hR, ← hok]
      rw [hR, hok] at hs2
      have hR2 : (nx (textOk R (!ok)) (R.drop ((Lib.indexByte R 0).toNat + 1)) []).length ≤ R.length - 1 := nx_len _
      have hRT : nx (textOk R (!ok)) (R.drop ((Lib.indexByte R 0).toNat + 1)) [] ≠ [] → L ≠ [] := fun _ => Hx.out.2.2 (textV_some hn)
      obtain ⟨nm, hnm⟩ : ∃ nm, textV T b = nm := ⟨_, rfl⟩
      obtain ⟨vl, hvl⟩ : ∃ vl, textV R (!ok) = vl := ⟨_, rfl⟩
      rw [hnm, hvl] at hstep
      rw [hvl] at hs2
      rw [hnm] at hn ⊢
      have hx := Hx.out
      rw [hstep] at hx
      obtain ⟨hx1, hx2, hx3⟩ := hx
      dsimp only at hx1 hx2
      have hx1' : (xs ++ [⟨nm, vl⟩]) ++ (pairsR m (nx (textOk R (!ok)) (R.drop ((Lib.indexByte R 0).toNat + 1)) []) (!textOk R (!ok))).1 = P.1 := by rw [List.append_assoc]; exact hx1
      have Hx2 := Lib.hid (And.intro hx1' hx2)
      have Hs2 := Lib.hid hs2
      have Hmt := Lib.hid (show (nx (textOk R (!ok)) (R.drop ((Lib.indexByte R 0).toNat + 1)) []).length < m by omega)
      have HRT := Lib.hid hRT
      have HT1 := Lib.hid hT1
      have hlx2 := congrArg List.length hx1'
      simp only [List.length_append, List.length_cons, List.length_nil] at hlx2
      have hnb : nm.toList.isEmpty = false := by
        cases e : nm.toList.isEmpty with
        | false => rfl
        | true => exact absurd (str_empty.1 e) hn
      clear hs2 hR hok hRl hT0 hstep hR2 hRT hx1 hx2 hx1' hs1 hT1 Hx Ht1 hm hx3
      go_wp2_with fail
      refine Hs2.out.mono ?_
      rintro e w2 ⟨rfl, hs3, hT2⟩
      have hz2 := hT2.size
      have HS3 := Lib.hid (And.intro hs3 ((HT.out.trans HT1.out).trans hT2))
      have ho2 := ((Ho.out.touch (S' := fun k => w.heap.size ≤ k) PrS.still HT1.out (fun k hk => by have := (Hrow.out k hk).1; omega) (fun k _ hk _ => ⟨hk, fun e => by omega⟩))).touch (S' := fun k => w.heap.size ≤ k) PrS.still hT2 (fun k hk => by have := (Hrow.out k hk).1; omega) (fun k _ hk _ => ⟨hk, fun e => by omega⟩)
      have hal : Below w2.heap.size w2 (w2.alloc (.cells #[.string nm, .string vl] 150)) := (Below.refl _ _).alloc (Nat.le_refl _) _
      have Ho2 := Lib.hid (ownPr_below ho2 hal)
      have Hnw : Hid (SliceS 2 PrS (fun k => w.heap.size ≤ k ∧ rowOf u3 ≠ some k) (w2.alloc (.cells #[.string nm, .string vl] 150)) [.slice (some ⟨w2.heap.size, 0, none⟩) 1 1] [⟨nm, vl⟩]) := Lib.hid
        (SliceS.new1 (S := fun k => w.heap.size ≤ k ∧ rowOf u3 ≠ some k) PrS.still w2 150 #[.string nm, .string vl] ⟨nm, vl⟩ rfl rfl (fun k _ h => h) ⟨by omega, fun e => by have := (Hrow.out _ e).2; omega⟩)
      have HA := Lib.hid hal
      have hwz : w.heap.size ≤ (w2.alloc (.cells #[.string nm, .string vl] 150)).heap.size := by simp; omega
      have hxr : xs.length + 1 ≤ 1000000 := by omega
      clear hs3 hT2 ho2 hal
      go_wp2_with (at_builtin; refine step_appendPr _ rfl (.tmp 9) (.tmp 14) rfl w.heap.size u3 xs rfl Ho2.out (some ⟨w2.heap.size, 0, none⟩) 1 1 [⟨nm, vl⟩] rfl Hnw.out (by simpa using hxr) hwz ?_; intro v5 w5 ho5 hg5 hn5; have Ho5 := Lib.hid ho5; have HT5 := Lib.hid ((HS3.out.2.trans (Touch.of_below HA.out)).then (Touch.of_row hg5) (fun i hi e => by have := (Hrow.out i e.symm).1; omega)); have HS5 := Lib.hid ((HS3.out.1.touch (Touch.of_below (p := fun _ => False) HA.out) (fun e => e) (fun _ e => e)).touch (Touch.of_row hg5) (fun e => by have := (Hrow.out _ e.symm).1; omega) (fun hne e => by have := (Hrow.out _ e.symm).1; have := Hg.out (HRT.out hne); omega)); clear ho5 hg5 hn5)
      go_roundw
      case rel => exact ⟨m, _, _, xs ++ [⟨nm, vl⟩], Hmt.out, HRT.out, Hx2.out.1, Hx2.out.2, Ho5.out, HS5.out, HT5.out⟩
      case measure =>
        obtain ⟨p5, c5, e5, _⟩ := Ho5.out.slice PrS.still (S' := fun _ => True) (fun _ _ _ => trivial) (fun _ _ => trivial)
        rw [e5, Hlen.out]
        simp [lenP]
        omega

end Go.Proofs.Ytjfhpafaopeogaa
