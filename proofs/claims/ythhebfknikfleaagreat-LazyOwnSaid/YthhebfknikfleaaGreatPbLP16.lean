/-
  Ground: LzF, LzG.
-/
import Derived.Test.YthhebfknikfleaaGreatPbLP15
import Derived.Test.YthhebfknikfleaaGreatPbLP1
import Derived.Test.YthhebfknikfleaaGreatPbLP0
import Derived.Lib.SliceRun
import Derived.Deep.RegionHeld3
/-
  Ground (layer 38): the walk of LazyTells.
-/
namespace Go.Proofs.YthhebfknikfleaaGreat
open Go.RowKit
set_option linter.unusedVariables false
set_option linter.unusedSimpArgs false

set_option maxRecDepth 100000 in
set_option maxHeartbeats 1000000 in
theorem lzfar_any (S : Nat → Prop) (p : Option Addr) (n c : Nat) (l : List PaV) (w : World) (h : SliceS 2 PaS S w [.slice p n c] l) :
    Calls Tryz.prog 7 #[.slice p n c] w (FarR l w) := by
  obtain ⟨rfl, hlc, hcm⟩ := h.len
  unfold maxLen at hcm
  have H := Lib.hid h
  have Hm : Hid (l.length ≤ 40 → (∀ (j : Nat) (hj : j < l.length), j < l.length → l[j].name.size ≤ 200 ∧ l[j].value.size ≤ 200) → NearP l) := Lib.hid (fun h g => ⟨h, fun j hj => g j hj hj⟩)
  clear h
  go_enter Tryz.func7, Tryz.ntmps7
  go_wp2_with fail
  go_loopw [7] (fun i wr => ∃ k : Nat, k ≤ l.length ∧ k ≤ 40 ∧ i = .int .i64 k ∧ (∀ (j : Nat) (hj : j < l.length), j < k → l[j].name.size ≤ 200 ∧ l[j].value.size ≤ 200) ∧ Below w.heap.size w wr) (fun i _ => l.length - (intOf i).toNat)
  case atStart => exact ⟨0, Nat.zero_le _, Nat.zero_le _, rfl, (fun j _ h => by omega), Below.refl _ _⟩
  case round =>
    obtain ⟨k, hk, hk4, rfl, hall, hb⟩ := hrel
    have hsz := hb.size
    have Hb := Lib.hid hb
    have Hall := Lib.hid hall
    by_cases hlt : k < l.length
    · obtain ⟨b, o, rfl, hS, hbl, c0, c1⟩ := pa_at (H.out.below PaS.still hb) hlt
      have Hnx := Lib.hid (fun h : l[k].name.size ≤ 200 ∧ l[k].value.size ≤ 200 => (fun j hj hjk => by
        by_cases e : j = k
        · subst e; exact h
        · exact Hall.out j hj (by omega) : ∀ (j : Nat) (hj : j < l.length), j < k + 1 → l[j].name.size ≤ 200 ∧ l[j].value.size ≤ 200))
      have HB := Lib.hid (Hb.out.alloc hsz (.cells #[.string l[k].name, .string l[k].value] 55))
      clear hb hS hall
      generalize l[k] = x at *
      obtain ⟨xn, xv⟩ := x
      dsimp only at *
      have hlti : (k : Int) < (l.length : Int) := by omega
      by_cases h40 : (40 : Int) ≤ (k : Int)
      · go_wp2_with fail
        go_ret
        exact FarR.far HB.out
      · by_cases hn : (200 : Int) < (xn.size : Int)
        · go_wp2_with fail
          go_ret
          exact FarR.far HB.out
        · by_cases hv : (200 : Int) < (xv.size : Int)
          · go_wp2_with fail
            go_ret
            exact FarR.far HB.out
          · have Hx := Lib.hid (Hnx.out ⟨by omega, by omega⟩)
            clear Hnx
            go_wp2_with fail
            go_roundw
            case rel => exact ⟨k + 1, by omega, by omega, by go_num, Hx.out, HB.out⟩
            case measure => simp [intOf]; omega
    · obtain rfl : k = l.length := by omega
      have Hx := Lib.hid (Hm.out hk4 Hall.out)
      clear hb hall
      go_wp2_with fail
      go_ret
      exact FarR.near Hx.out Hb.out


theorem addB_app (b : List UInt8) (x : BaV) : addB b x = b ++ addB [] x := by
  unfold addB; split <;> simp
theorem foldl_addB (L : List BaV) : ∀ b : List UInt8, L.foldl addB b = b ++ L.foldl addB [] := by
  induction L with
  | nil => intro b; simp
  | cons x L ih =>
    intro b
    simp only [List.foldl_cons]
    rw [ih (addB b x), ih (addB [] x), addB_app b x, List.append_assoc]
theorem lz_split (l : List PaV) (id : Int) : bytesB (greetV l id) = alikeL l ++ bytesB [keyB id, idleB] := by
  unfold alikeL bytesB greetV
  rw [List.foldl_append, foldl_addB [keyB id, idleB]]
theorem lz_sizes {l : List PaV} (h : NearP l) (id : Int) : (alikeL l).length ≤ 100000000 ∧ (bytesB [keyB id, idleB]).length ≤ 100000000 := by
  have h1 := bytP_len (greetV l id) (fun x hx => (greet_short id h x hx).l) _ (Nat.le_refl _)
  rw [bytP_all, lz_split, greet_len, List.length_append] at h1
  have := h.1
  omega
theorem eqB_true38 {w : World} {p q : Option Addr} {c d : Nat} {l : List UInt8} (h : BytesIn w p l) (g : BytesIn w q l) :
    Calls Tryz.prog 12 #[.slice p l.length c, .slice q l.length d] w fun e w' => e = .returned (.bool true) ∧ w = w' := by
  have := equal_any p q l l c d w h g
  rw [beq_self_eq_true] at this
  exact this
theorem opensS_int38 : OpensS Tryz.prog 3 IntU := by
  intro H enc w base spare held fuel cs x h
  obtain ⟨n, e, _⟩ := opens_int Tryz.underlying3 H enc w base spare held fuel cs x h
  exact ⟨n, e⟩
theorem opensS_ints38 : OpensS Tryz.prog 32 (SliceS 1 IntU) := opensS_slice (n := 1) Tryz.underlying32 (by kernel_rfl) (by omega) opensS_int38

set_option maxRecDepth 100000 in
set_option maxHeartbeats 4000000 in
theorem lazyTells_walk (p : Option Addr) (n c : Nat) (l : List PaV) (q : Option Addr) (m d : Nat) (ids : List Int) (w0 : World) (h : SliceS 2 PaS (fun k => k < w0.heap.size) w0 [.slice p n c] l) (h2 : SliceS 1 IntU (fun k => k < w0.heap.size) w0 [.slice q m d] ids) :
    Calls Tryz.prog 4 #[.slice p n c, .slice q m d] w0 fun e w' => e = .returned (.bool true) ∧ Below w0.heap.size w0 w' := by
  obtain ⟨rfl, hlc, hcm⟩ := h.len
  obtain ⟨rfl, hld, hdm⟩ := h2.len
  unfold maxLen at hcm hdm
  have Haw := Lib.hid (fun w => lzAwake_any w)
  have Hl := Lib.hid h
  have Hi := Lib.hid h2
  have HF := Lib.hid (lzfar_any _ _ _ _ l w0 h)
  clear h h2
  go_enter Tryz.func4, Tryz.ntmps4
  go_wp2_with fail
  refine HF.out.mono ?_
  rintro e w1 ⟨bf, rfl, hn, hb⟩
  have HB1 := Lib.hid hb
  have Hl1 := Lib.hid (Hl.out.below PaS.still hb)
  have Hi1 := Lib.hid (Hi.out.below IntU.still hb)
  have Hn := Lib.hid hn
  clear hb hn Hl HF Hi
  cases bf with
  | true =>
    go_wp2_with fail
    refine (Haw.out _).mono ?_
    rintro e wz ⟨rfl, hb⟩
    have HBz := Lib.hid (HB1.out.trans (hb.mono HB1.out.size))
    clear hb
    go_wp2_with fail
    go_ret
    exact ⟨rfl, HBz.out⟩
  | false =>
    have hnear := Hn.out rfl
    have Hnr := Lib.hid hnear
    have Hsz := Lib.hid (fun id => lz_sizes hnear id)
    have hl40 : l.length ≤ 40 := hnear.1
    clear Hn hnear
    by_cases h60 : (60 : Int) < (ids.length : Int)
    · go_wp2_with fail
      refine (Haw.out _).mono ?_
      rintro e wz ⟨rfl, hb⟩
      have HBz := Lib.hid (HB1.out.trans (hb.mono HB1.out.size))
      clear hb
      go_wp2_with fail
      go_ret
      exact ⟨rfl, HBz.out⟩
    · have HN := Lib.hid (lzNew_any _ p _ c l w1 Hl1.out (by omega))
      have HY := Lib.hid (fun (id : Int) (w : World) (hw : Below w1.heap.size w1 w) => gbytes_any _ p _ c l id w (Hl1.out.below PaS.still hw) (by omega) (greet_short id Hnr.out))
      have HZ := Lib.hid (fun (id : Int) (w : World) (hw : Below w1.heap.size w1 w) => rgbytes_any _ p _ c l id w (Hl1.out.below PaS.still hw) (by omega) (greet_short id Hnr.out))
      simp only [lz_split] at HY HZ
      have HO := Lib.hid (fun (id : Int) (w : World) (g : Nat) (pp : Option Addr) (cp : Nat) (h : LzO w1 w g l pp cp 0 (.slice none 0 0) ∨ ∃ pa ca, LzM w1 w g l pp cp pa ca) => lzOf_any w1 w g l pp cp id Hnr.out (Hsz.out id).1 (Hsz.out id).2 h)
      have HM := Lib.hid (fun g n w0 h1 h2 => lzMade_at g n w0 h1 h2)
      unfold OfR at HO
      generalize hLL : (fun id : Int => alikeL l ++ bytesB [keyB id, idleB]) = LL at *
      simp only [show ∀ id : Int, alikeL l ++ bytesB [keyB id, idleB] = LL id from fun id => by rw [← hLL]] at HY HZ HO
      clear hLL Hsz Hnr
      go_wp2_with fail
      refine HN.out.mono ?_
      rintro e w2 ⟨g, pp, cp, rfl, ho⟩
      have Ho := Lib.hid ho
      clear ho HN
      go_wp2_with fail
      refine (HM.out g 0 w2 (.inl rfl) (Ho.out.b.cell 5)).mono ?_
      rintro e wx ⟨rfl, rfl⟩
      go_wp2_with fail
      go_loopw [27] (fun i wr => ∃ k : Nat, k ≤ ids.length ∧ i = .int .i64 k ∧ (LzO w1 wr g l pp cp 0 (.slice none 0 0) ∨ ∃ pa ca, LzM w1 wr g l pp cp pa ca) ∧ Below w1.heap.size w1 wr) (fun i _ => ids.length - (intOf i).toNat)
      case atStart => exact ⟨0, Nat.zero_le _, rfl, .inl Ho.out, Ho.out.bel⟩
      case round =>
        obtain ⟨k, hk, rfl, hst, hb⟩ := hrel
        have Hb := Lib.hid hb
        have Hst := Lib.hid hst
        clear hb hst
        by_cases hlt : k < ids.length
        · have hwk : IntKind.i64.wrap ((k : Int) + 1) = (k : Int) + 1 := by rw [IntKind.wrap_i64]; omega
          obtain ⟨b, o, cs, rfl, hS, hbl, _, hc, hq⟩ := (Hi1.out.below IntU.still Hb.out).elem (by omega) k ids[k] (List.getElem?_eq_getElem hlt)
          have c0 := hc 0 (.int .i64 ids[k]) (by rw [hq]; rfl)
          rw [Nat.add_zero, Nat.mul_one] at c0
          clear hc hq hS hbl
          generalize ids[k] = id at *
          have hlti : (k : Int) < (ids.length : Int) := by omega
          have HO1 := Lib.hid (HO.out id wr g pp cp Hst.out)
          go_wp2_with fail
          refine HO1.out.mono ?_
          rintro e w3 ⟨p3, d3, pa3, ca3, rfl, hy3, hm3⟩
          have Hm3 := Lib.hid hm3
          have Hy3 := Lib.hid hy3
          clear hy3 hm3 c0 HO1
          go_wp2_with fail
          refine (HZ.out id w3 Hm3.out.bel).mono ?_
          rintro e w4 ⟨p4, d4, rfl, ⟨hy4, -, -⟩, hb⟩
          have Hm4 := Lib.hid (Hm3.out.step hb)
          have He4 := Lib.hid (eqB_true38 (c := d3) (d := d4) (Hy3.out.below hb) hy4)
          clear hb hy4 Hy3 Hm3
          go_wp2_with fail
          refine He4.out.mono ?_
          rintro e wx ⟨rfl, rfl⟩
          have HO2 := Lib.hid (HO.out id w4 g pp cp (.inr ⟨_, _, Hm4.out⟩))
          go_wp2_with fail
          refine HO2.out.mono ?_
          rintro e w5 ⟨p5, d5, pa5, ca5, rfl, hy5, hm5⟩
          have Hm5 := Lib.hid hm5
          have Hy5 := Lib.hid hy5
          clear hy5 hm5 HO2 Hm4 He4
          go_wp2_with fail
          refine (HY.out id w5 Hm5.out.bel).mono ?_
          rintro e w6 ⟨p6, d6, rfl, ⟨hy6, -, -⟩, hb⟩
          have Hm6 := Lib.hid (Hm5.out.step hb)
          have He6 := Lib.hid (eqB_true38 (c := d5) (d := d6) (Hy5.out.below hb) hy6)
          clear hb hy6 Hy5 Hm5
          go_wp2_with fail
          refine He6.out.mono ?_
          rintro e wx ⟨rfl, rfl⟩
          go_wp2_with fail
          refine (HM.out g 1 w6 (.inr rfl) (Hm6.out.b.cell 5)).mono ?_
          rintro e wx ⟨rfl, rfl⟩
          go_wp2_with fail
          go_roundw
          case rel => exact ⟨k + 1, by omega, by go_num, .inr ⟨_, _, Hm6.out⟩, Hm6.out.bel⟩
          case measure => simp [intOf]; omega
        · obtain rfl : k = ids.length := by omega
          have HB4 := Lib.hid (HB1.out.trans (Hb.out.mono HB1.out.size))
          go_wp2_with fail
          refine (Haw.out _).mono ?_
          rintro e wz ⟨rfl, hb⟩
          have HBz := Lib.hid (HB4.out.trans (hb.mono HB4.out.size))
          clear hb
          go_wp2_with fail
          go_ret
          exact ⟨rfl, HBz.out⟩

end Go.Proofs.YthhebfknikfleaaGreat

/-
  Ground (layer 38): clear; New and Of with what is new; the walk of LazyOwn.
-/
namespace Go.Proofs.YthhebfknikfleaaGreat
open Go.RowKit
set_option linter.unusedVariables false
set_option linter.unusedSimpArgs false

/-- 'clear' of a row of the call's own turns its block alone. -/
theorem run_clear_R {P : Program} {T e : TypeId} {B size n : Nat} {w : World} {v : Value} {xs : List Value} (ht : P.underlying T = some (.slice e)) (i : TypeInfo) (z : Value) (hi : P.info? e = some i) (hz : i.zero = some z)
    (hzs : z.cells.size = size) (hs0 : 0 < size) (hz1 : ∀ j, j < size → (z.cells[j]!).oneCell' = true) (hown : OwnR B e size w v n xs) :
    ∃ w2, (∀ ty, (Builtin.clear_ #[T] ty #[v]).run P w = .ok (.tuple #[]) w2) ∧ Touch (fun k => rowOf v = some k) w w2 := by
  rcases hown.2 with ⟨p, rfl, h0⟩ | ⟨g, cap, cur, rfl, hc0, hB, hg, hnc, hcm, hcs, htk⟩
  · refine ⟨w, fun ty => ?_, Touch.refl _ _⟩
    cases p <;> simp [Builtin.clear_, run_underlying ht]
  · by_cases hn : n = 0
    · subst hn
      refine ⟨w, fun ty => ?_, Touch.refl _ _⟩
      simp [Builtin.clear_, run_underlying ht]
    · have hl : (Builtin.zeroCells z.cells n).toList.length = n * size := by rw [Array.length_toList, size_zeroCells, hzs]
      have hfit : n * size ≤ cur.size := by rw [hcs]; exact Nat.mul_le_mul_right _ hnc
      have hone : ∀ u ∈ (Builtin.zeroCells z.cells n).toList, u.oneCell' = true := by
        intro u hu
        unfold Builtin.zeroCells at hu
        simp only [Array.toList_map, List.mem_map] at hu
        obtain ⟨j, _, rfl⟩ := hu
        rw [hzs]
        exact hz1 _ (Nat.mod_lt _ hs0)
      have hst := run_storeCells_at P g 0 e (Builtin.zeroCells z.cells n).toList 0 cur w hg (by rw [hl]; omega) hone
      have hv : ∀ w, (zeroValue e).run P w = .ok z w := by intro w; simp [zeroValue, typeInfo, hi, hz]
      obtain ⟨m, rfl⟩ : ∃ m, n = m + 1 := ⟨n - 1, by omega⟩
      obtain ⟨X, hX⟩ : ∃ X, (cur.toList.take (0 + 0) ++ (Builtin.zeroCells z.cells (m + 1)).toList ++ cur.toList.drop (0 + 0 + (Builtin.zeroCells z.cells (m + 1)).toList.length)).toArray = X := ⟨_, rfl⟩
      rw [hX] at hst
      refine ⟨w.setRow g X, fun ty => ?_, ?_⟩
      · simp [Builtin.clear_, run_underlying ht, hv, hst]
      · rw [rowOf_pos hc0]
        exact ⟨rfl, rfl, rfl, by simp [World.setRow], fun j _ hj => setRow_other w g j _ (fun e => hj (by rw [e]))⟩

theorem wpList_clearT {ops : Array Oper} {rest : List Oper} {o : Oper} {a : Act} {Q : Exit → Act → World → Prop} (w w2 : World) (hgd : o.guard = none) (s : Operand) (T : TypeId)
    (ho : o.op = .call { callee := .builtin .clear, args := #[s], argTypes := #[T] }) (v : Value) (hs : a.eval s = v) (hrun : ∀ ty, (Builtin.clear_ #[T] ty #[v]).run Tryz.prog w = .ok (.tuple #[]) w2)
    (h : wpList Tryz.prog ops Q rest (a.put o.dst (.tuple #[])) w2) : wpList Tryz.prog ops Q (o :: rest) a w := by
  refine wpList_plain hgd fun K hK => ?_
  unfold Oper.wp
  have hex : (execOp a.eval o).run Tryz.prog w = .ok (.value (.tuple #[])) w2 := by
    simp only [execOp, ho, resolve, invoke, builtin, Sem.run_bind, Sem.run_pure, List.map_toArray, List.map_cons, List.map_nil, hs, hrun, Result.andThen]
  rw [hex]
  exact hK _ _ h

theorem clear_pas {B : Nat} {w : World} {v : Value} {xs : List PaV} (h : OwnPa B w v xs) : ∃ w2, (∀ ty, (Builtin.clear_ #[22] ty #[v]).run Tryz.prog w = .ok (.tuple #[]) w2) ∧ Touch (fun k => rowOf v = some k) w w2 := by
  obtain ⟨i, hi, hz0, hz1, hz2⟩ := info_parts Tryz.info55
  obtain ⟨css, h1, _⟩ := h
  refine run_clear_R (size := 2) Tryz.underlying22 i _ hi hz0 rfl (by decide) (fun j hj => ?_) h1
  have : j = 0 ∨ j = 1 := by omega
  rcases this with rfl | rfl <;> rfl
theorem clear_bytes38 {B : Nat} {w : World} {v : Value} {xs : List UInt8} (h : OwnBR B w v xs) : ∃ w2, (∀ ty, (Builtin.clear_ #[25] ty #[v]).run Tryz.prog w = .ok (.tuple #[]) w2) ∧ Touch (fun k => rowOf v = some k) w w2 := by
  obtain ⟨i, hi, hz0, hz1, hz2⟩ := info_parts Tryz.info5
  refine run_clear_R (size := 1) Tryz.underlying25 i _ hi hz0 rfl (by decide) (fun j hj => ?_) h
  obtain rfl : j = 0 := by omega
  rfl

set_option maxRecDepth 100000 in
theorem lzNew_own (S : Nat → Prop) (p : Option Addr) (n c : Nat) (l : List PaV) (w : World) (h : SliceS 2 PaS S w [.slice p n c] l) (hl : l.length ≤ 100000) :
    Calls Tryz.prog 10 #[.slice p n c] w fun e w' => ∃ g pp cp, e = .returned (.pointer (some ⟨g, 0, none⟩)) ∧ LzO w w' g l pp cp 0 (.slice none 0 0) ∧ SliceS 2 PaS (fun k => w.heap.size ≤ k ∧ k ≠ g) w' [.slice pp l.length cp] l := by
  have HC := Lib.hid (clone_pas S p n c l w h hl)
  clear h
  go_enter Tryz.func10, Tryz.ntmps10
  go_wp2_with fail
  refine HC.out.mono ?_
  rintro e w1 ⟨v1, rfl, ho, hb⟩
  obtain ⟨pp, cp, hv, hs⟩ := ho.lst
  subst hv
  have hz := hb.size
  have hal := (Below.refl w1.heap.size w1).alloc (Nat.le_refl _) (.cells #[.slice pp l.length cp, .int .u32 0, .int .i32 0, .int .u32 0, .slice none 0 0, .int .i32 0, .bool true] 73)
  have HO : Hid (LzO w (w1.alloc (.cells #[.slice pp l.length cp, .int .u32 0, .int .i32 0, .int .u32 0, .slice none 0 0, .int .i32 0, .bool true] 73)) w1.heap.size l pp cp 0 (.slice none 0 0)) :=
    Lib.hid ⟨hz, Blk.new _ _ _, (SliceS.weak PaS.still hs (fun k hk _ => by omega)).below PaS.still hal, hb.trans (hal.mono hz)⟩
  have HS := Lib.hid ((SliceS.weak (S' := fun k => w.heap.size ≤ k ∧ k ≠ w1.heap.size) PaS.still hs (fun k hk h => ⟨h, by omega⟩)).below PaS.still hal)
  clear ho hs hb hal
  go_wp2_with fail
  go_ret
  exact ⟨_, _, _, rfl, HO.out, HS.out⟩

/-- What Of answers: new. -/
def OwnOfR (w0 : World) (g : Nat) (l : List PaV) (pp : Option Addr) (cp : Nat) (id : Int) (e : Ending) (w' : World) : Prop :=
  ∃ w2 v pa ca, e = .returned v ∧ LzM w0 w2 g l pp cp pa ca ∧ Below w2.heap.size w2 w' ∧ OwnBR w2.heap.size w' v (alikeL l ++ bytesB [keyB id, idleB])

set_option maxRecDepth 100000 in
set_option maxHeartbeats 2000000 in
theorem lzOf_own (w0 w : World) (g : Nat) (l : List PaV) (pp : Option Addr) (cp : Nat) (id : Int) (hs : NearP l) (hsl : (alikeL l).length ≤ 100000000) (hsk : (bytesB [keyB id, idleB]).length ≤ 100000000)
    (h : LzO w0 w g l pp cp 0 (.slice none 0 0) ∨ ∃ pa ca, LzM w0 w g l pp cp pa ca) :
    Calls Tryz.prog 11 #[.pointer (some ⟨g, 0, none⟩), .int .i64 id] w (OwnOfR w0 g l pp cp id) := by
  have hc6 : w.cell? ⟨g, 6, none⟩ = some (.bool true) := by
    rcases h with h | ⟨pa, ca, h⟩
    · exact h.b.cell 6
    · exact h.b.cell 6
  have HDo : Hid (Calls Tryz.prog 29 #[.pointer (some ⟨g, 1, none⟩), .func (.func 30) #[.pointer (some ⟨g, 0, none⟩)] #[]] w fun e w' => e = .returned (.tuple #[]) ∧ ∃ pa ca, LzM w0 w' g l pp cp pa ca) := Lib.hid (by
    rcases h with h | ⟨pa, ca, h⟩
    · exact lzDo_any w0 w g l pp cp h hs
    · refine (lzDo_done g _ w (h.b.cell 1)).mono ?_
      rintro e w' ⟨rfl, rfl⟩
      exact ⟨rfl, pa, ca, h⟩)
  have HKy := Lib.hid (fun w1 => lzKeys_any id w1)
  have Hsl := Lib.hid hsl
  have Hsk := Lib.hid hsk
  unfold OwnOfR
  generalize bytesB [keyB id, idleB] = K at *
  clear h hs hsl hsk
  go_enter Tryz.func11, Tryz.ntmps11
  go_upto_region 4 with (go_at_call 29; refine HDo.out.mono ?_; rintro e w1 ⟨rfl, pa, ca, hm⟩; have H1 := Lib.hid hm; clear hm HDo)
  have hc1 : ∀ i, w1.cell? ⟨g, i, none⟩ = (#[.slice pp l.length cp, .int .u32 1, .int .i32 0, .int .u32 0, (.slice pa (alikeL l).length ca), .int .i32 1, .bool true] : Array Value)[i]? := H1.out.b.cell
  have H1d : Hid (LzM w0 (w1.drewN 1) g l pp cp pa ca) := Lib.hid (H1.out.step (((Touch.refl (fun _ => False) w1).drewN 1).below (Nat.le_refl _) (fun _ e => e.elim)))
  clear hc6
  go_region_held3 (fun w' => ∀ i, w'.cell? ⟨g, i, none⟩ = (#[.slice pp l.length cp, .int .u32 1, .int .i32 0, .int .u32 0, (.slice pa (alikeL l).length ca), .int .i32 1, .bool true] : Array Value)[i]?)
    (first | exact hc1 | exact H2.out.b.cell | exact (H2.out.step ((Below.refl _ _).alloc (Nat.le_refl _) _)).b.cell | exact H4.out.b.cell | go_keep)
    (first
      | (go_at_call 32; refine (HKy.out _).mono ?_; rintro e w2 ⟨pk, dk, rfl, ⟨hk1, hk2, hk3⟩, hb⟩; have H2 := Lib.hid (H1d.out.step hb); have HK2 := Lib.hid (And.intro hk1 (And.intro hk2 hk3)); clear hb hk1 hk2 hk3)
      | (go_at_call 31; refine (concat_any _ _ _ [alikeL l, K] (fun _ => True) _ (slice2By w2 25 pa pk ca dk (alikeL l) K (lzYin H2.out.y).1 (lzYin H2.out.y).2.1 (lzYin H2.out.y).2.2 HK2.out.1 HK2.out.2.1 HK2.out.2.2) (by have := Hsl.out; have := Hsk.out; simp; omega)).mono ?_; rintro e w4 ⟨v4, rfl, ho, hb⟩; have H4 := Lib.hid ((H2.out.step ((Below.refl _ _).alloc (Nat.le_refl _) _)).step hb); have HB4 : Hid (Below w2.heap.size w2 w4) := Lib.hid (((Below.refl _ _).alloc (Nat.le_refl _) _).trans (hb.mono (by simp))); have Ho4 : Hid (OwnBR w2.heap.size w4 v4 ([alikeL l, K] : List (List UInt8)).flatten) := Lib.hid (OwnR.base ho (by simp)); obtain ⟨p4, d4, hv4, -, -, -, -⟩ := ho.slice; subst hv4; clear ho hb))
  rw [show ([alikeL l, K] : List (List UInt8)).flatten = alikeL l ++ K by simp] at *
  go_wp2
  go_ret
  exact ⟨w2, .slice p4 ((alikeL l).length + K.length) d4, pa, ca, rfl, H2.out, HB4.out, by have := Ho4.out; rwa [List.length_append] at this⟩

/-- The parameters' own copy is turned. -/
theorem LzO.turn {w0 w5 w w' : World} {g : Nat} {l : List PaV} {pp : Option Addr} {cp : Nat} {row : Option Nat} (h : LzO w5 w g l pp cp 0 (.slice none 0 0)) (hp : SliceS 2 PaS (fun k => w5.heap.size ≤ k ∧ k ≠ g) w [.slice pp l.length cp] l) (hb : Below w0.heap.size w0 w5)
    (hT : Touch (fun k => row = some k) w w') (hr : ∀ k, row = some k → w0.heap.size ≤ k ∧ k < w5.heap.size) : LzO w0 w' g l pp cp 0 (.slice none 0 0) := by
  have hg := h.hg
  have hz := hb.size
  refine ⟨by omega, hT.blk h.b (fun e => by have := hr g e; omega), (SliceS.still PaS.still) _ _ _ _ _ _ hp (Kept.touch hT (fun k hk hs => ⟨hs.2, fun e => by have := hr k e; omega⟩)), (hb.trans (h.bel.mono hz)).trans (hT.below (by have := h.bel.size; omega) (fun k e => (hr k e).1))⟩

set_option maxRecDepth 100000 in
set_option maxHeartbeats 4000000 in
theorem lazyOwn_walk (p : Option Addr) (n c : Nat) (l : List PaV) (id : Int) (w0 : World) (h : SliceS 2 PaS (fun k => k < w0.heap.size) w0 [.slice p n c] l) :
    Calls Tryz.prog 3 #[.slice p n c, .int .i64 id] w0 fun e w' => e = .returned (.bool true) ∧ Below w0.heap.size w0 w' := by
  obtain ⟨rfl, hlc, hcm⟩ := h.len
  unfold maxLen at hcm
  have Haw := Lib.hid (fun w => lzAwake_any w)
  have Hl := Lib.hid h
  have HF := Lib.hid (lzfar_any _ _ _ _ l w0 h)
  clear h
  go_enter Tryz.func3, Tryz.ntmps3
  go_wp2_with fail
  refine HF.out.mono ?_
  rintro e w1 ⟨bf, rfl, hn, hb⟩
  have HB1 := Lib.hid hb
  have Hl1 := Lib.hid (Hl.out.below PaS.still hb)
  have Hn := Lib.hid hn
  clear hb hn Hl HF
  cases bf with
  | true =>
    go_wp2_with fail
    refine (Haw.out _).mono ?_
    rintro e wz ⟨rfl, hb⟩
    have HBz := Lib.hid (HB1.out.trans (hb.mono HB1.out.size))
    clear hb
    go_wp2_with fail
    go_ret
    exact ⟨rfl, HBz.out⟩
  | false =>
    have hnear := Hn.out rfl
    have hl40 : l.length ≤ 40 := hnear.1
    have HZ := Lib.hid (rgbytes_any _ p _ c l id w1 Hl1.out (by omega) (greet_short id hnear))
    have HO := Lib.hid (fun (w0 w : World) (g : Nat) (pp : Option Addr) (cp : Nat) (h : LzO w0 w g l pp cp 0 (.slice none 0 0) ∨ ∃ pa ca, LzM w0 w g l pp cp pa ca) => lzOf_own w0 w g l pp cp id hnear (lz_sizes hnear id).1 (lz_sizes hnear id).2 h)
    rw [lz_split] at HZ
    unfold OwnOfR at HO
    generalize alikeL l ++ bytesB [keyB id, idleB] = LL at *
    clear Hn hnear
    go_wp2_with fail
    refine HZ.out.mono ?_
    rintro e w4 ⟨p4, d4, rfl, ⟨hy4, -, -⟩, hb⟩
    have HB4 := Lib.hid (HB1.out.trans (hb.mono HB1.out.size))
    have Hl4 := Lib.hid (Hl1.out.below PaS.still hb)
    have Hy4 := Lib.hid hy4
    clear hb hy4 HZ
    go_upto_region 5 with (at_builtin; refine wpList_append_S _ rfl (.const (.slice none 0 0)) (.tmp 15) 22 22 rfl w4.heap.size 55 55 2 32 Tryz.underlying22 Tryz.underlying22 info_pa PaS PaS.still PaS.one (fun _ => True) (.slice none 0 0) [] rfl (OwnS.empty _) p l.length c l rfl (SliceS.weak PaS.still Hl4.out (fun k _ hs => ⟨trivial, by simp [rowOf]⟩)) (by simp; omega) (by simp [maxLen]; omega) (Nat.le_refl _) ?_; intro v5 w5 ho5 hg5 _; rw [List.nil_append] at ho5; have Ho5 : Hid (OwnPa w4.heap.size w5 v5 l) := Lib.hid ho5; have HB5 : Hid (Below w4.heap.size w4 w5) := Lib.hid (Below.of_row hg5 (Nat.le_refl _) (fun k e => by simp [rowOf] at e)); clear ho5 hg5)
    obtain ⟨p5, c5, hv5, hs5⟩ := Ho5.out.lst
    have Hrow := Lib.hid (fun k (e : rowOf v5 = some k) => (by obtain ⟨css, h1, _⟩ := Ho5.out; exact h1.row k e : w4.heap.size ≤ k ∧ k < w5.heap.size))
    subst hv5
    have HN := Lib.hid (lzNew_own _ p5 _ c5 l w5 hs5 (by omega))
    clear hs5
    go_wp2_with fail
    refine HN.out.mono ?_
    rintro e w6 ⟨g, pp, cp, rfl, ho, hp⟩
    have hc6 : ∃ w7, (∀ ty, (Builtin.clear_ #[22] ty #[.slice p5 l.length c5]).run Tryz.prog w6 = .ok (.tuple #[]) w7) ∧ Touch (fun k => rowOf (.slice p5 l.length c5) = some k) w6 w7 := clear_pas (B := w4.heap.size) (xs := l) (by
      have := Ho5.out
      exact this.touch (S' := fun _ => True) PaS.still (Touch.of_below (p := fun _ => False) ho.bel) (fun _ _ e => e) (fun _ _ _ _ => ⟨trivial, fun e => e⟩))
    obtain ⟨w7, hrun, hT7⟩ := hc6
    have Hrun := Lib.hid hrun
    have HO7 := Lib.hid (ho.turn hp HB5.out hT7 (fun k e => Hrow.out k e))
    clear ho hp hrun hT7 HN Ho5 Hrow
    have HA := Lib.hid (HO.out w4 w7 g pp cp (.inl HO7.out))
    go_upto_region 7 with (refine wpList_clearT _ w7 rfl (.tmp 19) 22 rfl (.slice p5 l.length c5) rfl Hrun.out ?_)
    go_wp2_with fail
    refine HA.out.mono ?_
    rintro e w8 ⟨w2, v8, pa, ca, rfl, hm, hb, ho8⟩
    obtain ⟨w9, hrun, hT9⟩ := clear_bytes38 ho8
    have hb9 : Below w2.heap.size w2 w9 := hb.trans (hT9.below hb.size (fun k e => (ho8.row k e).1))
    have HM9 := Lib.hid (hm.step hb9)
    have Hrun9 := Lib.hid hrun
    obtain ⟨p8, c8, hv8, -⟩ := OwnBR.slice ho8
    have HA9 := Lib.hid (HO.out w4 w9 g pp cp (.inr ⟨_, _, HM9.out⟩))
    clear hm hb ho8 hrun hT9 hb9 HA Hrun HO7
    subst hv8
    go_upto_region 9 with (refine wpList_clearT _ w9 rfl (.tmp 23) 25 rfl _ rfl Hrun9.out ?_)
    go_wp2_with fail
    refine HA9.out.mono ?_
    rintro e wa ⟨w3, va, pa2, ca2, rfl, hm, hb, hoa⟩
    have HMa := Lib.hid (hm.step hb)
    obtain ⟨p9, c9, hv9, -, -, q9, -⟩ := OwnBR.slice hoa
    subst hv9
    have He := Lib.hid (eqB_true38 (c := c9) (d := d4) q9 (Hy4.out.below HMa.out.bel))
    clear hm hb hoa q9 HA9 Hrun9 HM9
    go_wp2_with fail
    refine He.out.mono ?_
    rintro e wx ⟨rfl, rfl⟩
    go_wp2_with fail
    refine (Haw.out _).mono ?_
    rintro e wz ⟨rfl, hb⟩
    have HBz := Lib.hid ((HB4.out.trans (HMa.out.bel.mono HB4.out.size)).trans (hb.mono (by have := HB4.out.size; have := HMa.out.bel.size; omega)))
    clear hb
    go_wp2_with fail
    go_ret
    exact ⟨rfl, HBz.out⟩

end Go.Proofs.YthhebfknikfleaaGreat

