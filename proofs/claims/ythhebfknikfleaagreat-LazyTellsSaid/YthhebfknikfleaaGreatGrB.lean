/-
  What is said first (layer 11): pairs, rows of messages; settings, Backs, Bytes of both; far.
-/
import Derived.Test.YthhebfknikfleaaGreatBaR
import Derived.Test.YthhebfknikfleaaGreatGrA
import Derived.Test.YthhebfknikfleaaGreatPackA
namespace Go.Proofs.YthhebfknikfleaaGreat
open Go.RowKit
set_option linter.unusedVariables false
set_option linter.unusedSimpArgs false

structure PaV where
  name : ByteArray
  value : ByteArray
def PaS : Rd PaV := fun _ _ cs x => cs = [.string x.name, .string x.value] ∧ x.name.size ≤ maxLen ∧ x.value.size ≤ maxLen
theorem PaS.still : Still PaS := fun _ _ _ _ _ _ h _ => h
theorem pa_at {S : Nat → Prop} {w : World} {p : Option Addr} {n c k : Nat} {xs : List PaV} (h : SliceS 2 PaS S w [.slice p n c] xs) (hk : k < xs.length) :
    ∃ b o, p = some ⟨b, o, none⟩ ∧ S b ∧ b < w.heap.size ∧ w.cell? ⟨b, o + k * 2, none⟩ = some (.string xs[k].name) ∧ w.cell? ⟨b, o + k * 2 + 1, none⟩ = some (.string xs[k].value) := by
  obtain ⟨b, o, cs, rfl, hS, hb, _, hc, rfl, _⟩ := h.elem (by omega) k xs[k] (List.getElem?_eq_getElem hk)
  have c0 := hc 0 _ rfl
  rw [Nat.add_zero] at c0
  exact ⟨b, o, rfl, hS, hb, c0, hc 1 _ rfl⟩
theorem opensS_pa : OpensS Tryz.prog 55 PaS := by
  intro H enc w base spare held fuel cs x h
  have S : StructOf Tryz.prog 55 _ := ⟨Tryz.underlying55, by kernel_rfl, by kernel_rfl⟩
  have hl := S.len h
  match cs, hl with
  | [c0, c1], _ =>
    obtain ⟨y0, e0, hw0⟩ := S.field h 0 _ rfl c0 rfl (opens_str Tryz.underlying9)
    obtain ⟨y1, e1, hw1⟩ := S.field h 1 _ rfl c1 rfl (opens_str Tryz.underlying9)
    simp only [List.cons.injEq, and_true] at e0 e1
    subst e0 e1
    exact ⟨⟨y0, y1⟩, rfl, hw0, hw1⟩
theorem opensS_pas : OpensS Tryz.prog 22 (SliceS 2 PaS) := opensS_slice Tryz.underlying22 (by kernel_rfl) (by omega) opensS_pa

def setV (p : PaV) : BaV := { baZero 83 with name := p.name, value := p.value }
def keyB (id : Int) : BaV := { baZero 75 with n := keyI id, m := keyM id }
def idleB : BaV := { baZero 90 with status := 73 }
/-- What is said first. -/
def greetV (l : List PaV) (id : Int) : List BaV := (baZero 82 :: l.map setV) ++ [keyB id, idleB]
theorem setV_cells (p : PaV) : (baCells (setV p) baNil).toList = [.int .u8 83, .int .u8 0, .string ⟨#[]⟩, .string p.name, .string p.value, .int .i64 0, .int .i64 0, .slice none 0 0, .slice none 0 0, .slice none 0 0, .slice none 0 0] := rfl
theorem nil_l {S : Nat → Prop} {w : World} {x : BaV} (ho : x.oids = []) (hc : x.cols = []) (hr : x.row = []) (hf : x.fields = []) : BaL S w x baNil := by
  refine ⟨?_, ?_, ?_, ?_⟩
  · rw [ho]; exact SliceS.empty none 0 (by simp [maxLen])
  · rw [hc]; exact SliceS.empty none 0 (by simp [maxLen])
  · rw [hr]; exact SliceS.empty none 0 (by simp [maxLen])
  · rw [hf]; exact SliceS.empty none 0 (by simp [maxLen])
theorem set_ba (p : PaV) (S : Nat → Prop) (w : World) : BaS S w [.int .u8 83, .int .u8 0, .string ⟨#[]⟩, .string p.name, .string p.value, .int .i64 0, .int .i64 0, .slice none 0 0, .slice none 0 0, .slice none 0 0, .slice none 0 0] (setV p) :=
  ⟨baNil, rfl, nil_l rfl rfl rfl rfl, show (0 : Int) ≤ 83 by decide, show (83 : Int) < 256 by decide, show (0 : Int) ≤ 0 by decide, show (0 : Int) < 256 by decide⟩
theorem r_ba (S : Nat → Prop) (w : World) : BaS S w [.int .u8 82, .int .u8 0, .string ⟨#[]⟩, .string ⟨#[]⟩, .string ⟨#[]⟩, .int .i64 0, .int .i64 0, .slice none 0 0, .slice none 0 0, .slice none 0 0, .slice none 0 0] (baZero 82) :=
  ⟨baNil, rfl, nil_l rfl rfl rfl rfl, show (0 : Int) ≤ 82 by decide, show (82 : Int) < 256 by decide, show (0 : Int) ≤ 0 by decide, show (0 : Int) < 256 by decide⟩
theorem key_ba (id : Int) (S : Nat → Prop) (w : World) : BaS S w [.int .u8 75, .int .u8 0, .string ⟨#[]⟩, .string ⟨#[]⟩, .string ⟨#[]⟩, .int .i64 (keyI id), .int .i64 (keyM id), .slice none 0 0, .slice none 0 0, .slice none 0 0, .slice none 0 0] (keyB id) :=
  ⟨baNil, rfl, nil_l rfl rfl rfl rfl, show (0 : Int) ≤ 75 by decide, show (75 : Int) < 256 by decide, show (0 : Int) ≤ 0 by decide, show (0 : Int) < 256 by decide⟩
theorem idle_ba (S : Nat → Prop) (w : World) : BaS S w [.int .u8 90, .int .u8 73, .string ⟨#[]⟩, .string ⟨#[]⟩, .string ⟨#[]⟩, .int .i64 0, .int .i64 0, .slice none 0 0, .slice none 0 0, .slice none 0 0, .slice none 0 0] idleB :=
  ⟨baNil, rfl, nil_l rfl rfl rfl rfl, show (0 : Int) ≤ 90 by decide, show (90 : Int) < 256 by decide, show (0 : Int) ≤ 73 by decide, show (73 : Int) < 256 by decide⟩

abbrev OwnBa (B : Nat) (w : World) (v : Value) (xs : List BaV) : Prop := OwnS B 39 11 BaS (fun k => B ≤ k) w v xs
theorem Tryz.info39 : (Tryz.prog.info? 39).map (fun i => (i.zero, i.size, i.bytes)) = some (some (.agg #[.int .u8 0, .int .u8 0, .string ⟨#[]⟩, .string ⟨#[]⟩, .string ⟨#[]⟩, .int .i64 0, .int .i64 0, .slice none 0 0, .slice none 0 0, .slice none 0 0, .slice none 0 0]), 11, 168) := by kernel_rfl
theorem info_ba : ∃ i z, Tryz.prog.info? 39 = some i ∧ i.zero = some z ∧ i.size = 11 ∧ i.bytes = 168 ∧ z.cells.size = 11 := by
  obtain ⟨i0, hi, hz0, hz1, hz2⟩ := info_parts Tryz.info39
  exact ⟨i0, _, hi, hz0, hz1, hz2, rfl⟩
theorem OwnBa.lst {B : Nat} {w : World} {v : Value} {xs : List BaV} (h : OwnBa B w v xs) : ∃ p c, v = .slice p xs.length c ∧ SliceS 11 BaS (fun k => B ≤ k) w [.slice p xs.length c] xs :=
  h.slice BaS.still (fun _ _ hk => hk) (fun k hk => (h.row k hk).1)
/-- A row of one message. -/
theorem OwnBa.new1 (B : Nat) (w : World) (cs : Array Value) (x : BaV) (hB : B ≤ w.heap.size) (hl : cs.size = 11) (hx : ∀ S w, BaS S w cs.toList x) : OwnBa B (w.alloc (.cells cs 39)) (.slice (some ⟨w.heap.size, 0, none⟩) 1 1) [x] := by
  refine ⟨[cs.toList], ?_, ⟨⟨by simpa using hl, hx _ _⟩, trivial⟩⟩
  have h := OwnR.new (e := 39) (size := 11) B w 1 cs (by omega) (by simp [maxLen]) (by omega) hB
  simpa using h
/-- Two messages in a new block. -/
theorem slice2Ba (w : World) (a b : List Value) (x y : BaV) (ha : a.length = 11) (hb : b.length = 11) (hx : ∀ S w, BaS S w a x) (hy : ∀ S w, BaS S w b y) :
    SliceS 11 BaS (fun j => j = w.heap.size) (w.alloc (.cells (a ++ b).toArray 39)) [.slice (some ⟨w.heap.size, 0, none⟩) 2 2] [x, y] := by
  refine ⟨_, _, [a, b], rfl, Nat.le_refl _, by simp [maxLen], fun j u hu => ⟨_, _, rfl, rfl, ?_⟩, ⟨ha, hx _ _⟩, ⟨hb, hy _ _⟩, trivial⟩
  rw [Nat.zero_add, World.cell?_alloc_new]
  simpa using hu
theorem step_appendBa {ops : Array Oper} {rest : List Oper} {o : Oper} {a : Act} {Q : Exit → Act → World → Prop} (w : World) (hgd : o.guard = none) (s y : Operand)
    (ho : o.op = .call { callee := .builtin .append, args := #[s, y], argTypes := #[50, 50] })
    (B : Nat) (v : Value) (xs : List BaV) (hsv : a.eval s = v) (hown : OwnBa B w v xs) (p : Option Addr) (n c : Nat) (ys : List BaV) (hx : a.eval y = .slice p n c) (hs : SliceS 11 BaS (fun k => B ≤ k ∧ rowOf v ≠ some k) w [.slice p n c] ys)
    (hroom : xs.length + ys.length ≤ 1000000) (hbase : B ≤ w.heap.size)
    (h : ∀ v' w', OwnBa B w' v' (xs ++ ys) → w.grownBy w' (rowOf v) → (∀ k, rowOf v' = some k → rowOf v = some k ∨ w.heap.size ≤ k) → wpList Tryz.prog ops Q rest (a.put o.dst v') w') : wpList Tryz.prog ops Q (o :: rest) a w :=
  wpList_append_S w hgd s y 50 50 ho B 39 39 11 168 Tryz.underlying50 Tryz.underlying50 info_ba BaS BaS.still BaS.one (fun k => B ≤ k) v xs hsv hown p n c ys hx hs
    (by omega) (by simp only [maxLen]; omega) hbase h
theorem rgn_appendBa {ops : Array Oper} {o : Oper} {a : Act} {w : World} {K : Act → World → Prop} {Q : Exit → Act → World → Prop} {F : Prop} (hgd : o.guard = none) (s y : Operand)
    (ho : o.op = .call { callee := .builtin .append, args := #[s, y], argTypes := #[50, 50] })
    (B : Nat) (v : Value) (xs : List BaV) (hsv : a.eval s = v) (hown : OwnBa B w v xs) (p : Option Addr) (n c : Nat) (ys : List BaV) (hx : a.eval y = .slice p n c) (hs : SliceS 11 BaS (fun k => B ≤ k ∧ rowOf v ≠ some k) w [.slice p n c] ys)
    (hroom : xs.length + ys.length ≤ 1000000) (hbase : B ≤ w.heap.size)
    (h : ∀ v' w', OwnBa B w' v' (xs ++ ys) → w.grownBy w' (rowOf v) → (∀ k, rowOf v' = some k → rowOf v = some k ∨ w.heap.size ≤ k) → K (a.put o.dst v') w') :
    if Region.wanted o (yielded ops a.tmps) = true then Oper.wp Tryz.prog o a w K Q else F := by
  have hw : Region.wanted o (yielded ops a.tmps) = true := by simp [Region.wanted, hgd]
  rw [if_pos hw]
  obtain ⟨i, z, hi, hz, hsize, hby, hzs⟩ := info_ba
  obtain ⟨css, k1, k2⟩ := hown
  obtain ⟨dss, rfl, k3, k4⟩ := hs.src (P := Tryz.prog) BaS.one Tryz.underlying50
  obtain ⟨v', w', hrun, r1, r2, r3⟩ := run_append_R (P := Tryz.prog) 50 50 o.type i z 168 Tryz.underlying50 hi hz hsize hby hzs k1 _ _ _ k3 (by simp only [maxLen]; omega) (by omega) hbase
  unfold Oper.wp
  simp [execOp, ho, resolve, invoke, builtin, hsv, hx, hrun, Result.andThen]
  refine h v' w' ⟨css ++ dss, ?_, ?_⟩ r2 r3
  · rw [List.length_append, List.flatten_append]; exact r1
  · exact All2.append (OwnS.grow BaS.still k2 r2 r3) (OwnS.grow BaS.still k4 r2 r3)

set_option maxRecDepth 100000 in
set_option maxHeartbeats 1000000 in
theorem settings_any (S : Nat → Prop) (p : Option Addr) (n c : Nat) (l : List PaV) (w : World) (h : SliceS 2 PaS S w [.slice p n c] l) (hl : l.length ≤ 1000) :
    Calls Tryz.prog 94 #[.slice p n c] w fun e w' => ∃ p c, e = .returned (.slice p l.length c) ∧ SliceS 11 BaS (fun k => w.heap.size ≤ k) w' [.slice p l.length c] (l.map setV) ∧ Below w.heap.size w w' := by
  obtain ⟨rfl, hlc, hcm⟩ := h.len
  unfold maxLen at hcm
  have H := Lib.hid h
  clear h
  go_enter Tryz.func94, Tryz.ntmps94
  go_wp2_with fail
  go_loopw [3, 8] (fun v i wr => ∃ k : Nat, k ≤ l.length ∧ i = .int .i64 k ∧ OwnBa w.heap.size wr v ((l.take k).map setV) ∧ Below w.heap.size w wr) (fun _ i _ => l.length - (intOf i).toNat)
  case atStart => exact ⟨0, Nat.zero_le _, rfl, OwnS.empty _, Below.refl _ _⟩
  case round =>
    obtain ⟨k, hk, rfl, ho, hb⟩ := hrel
    have hsz := hb.size
    have Hb := Lib.hid hb
    have Ho := Lib.hid ho
    by_cases hlt : k < l.length
    · obtain ⟨b, o, rfl, hS, hbl, c0, c1⟩ := pa_at (H.out.below PaS.still hb) hlt
      have Htk : Hid ((l.take (k + 1)).map setV = (l.take k).map setV ++ [setV l[k]]) := Lib.hid (by rw [List.take_succ_eq_append_getElem hlt, List.map_append]; rfl)
      have Hln : Hid (((l.take k).map setV).length ≤ 1000) := Lib.hid (by rw [List.length_map, List.length_take]; omega)
      have Hrow := Lib.hid ho.row
      clear ho hb hS
      generalize l[k] = x at *
      obtain ⟨xn, xv⟩ := x
      dsimp only at *
      have hlti : (k : Int) < (l.length : Int) := by omega
      have hal : Below wr.heap.size wr (wr.alloc (.cells #[.string xn, .string xv] 55)) := (Below.refl _ _).alloc (Nat.le_refl _) _
      have HBa := Lib.hid (Hb.out.trans (hal.mono hsz))
      have Hoa := Lib.hid (OwnS.below' BaS.still Ho.out hal)
      have Hka := Lib.hid (Blk.new wr 55 #[.string xn, .string xv])
      clear hal
      go_upto_region 5 with fail
      clear c0 c1 hbl Ho
      generalize wr.alloc (.cells #[.string xn, .string xv] 55) = wa at *
      have hlg := Hka.out.lt
      generalize hgx : wr.heap.size = gx at *
      have hcx := Hka.out.cell
      have hza := HBa.out.size
      have Hra := Lib.hid Hoa.out.row
      have Hn : Hid (SliceS 11 BaS (fun j => j = wa.heap.size) (wa.alloc (.cells #[.int .u8 83, .int .u8 0, .string ⟨#[]⟩, .string xn, .string xv, .int .i64 0, .int .i64 0, .slice none 0 0, .slice none 0 0, .slice none 0 0, .slice none 0 0] 39)) [.slice (some ⟨wa.heap.size, 0, none⟩) 1 1] [setV ⟨xn, xv⟩]) := Lib.hid (SliceS.new1 (S := fun _ => False) BaS.still wa 39 #[.int .u8 83, .int .u8 0, .string ⟨#[]⟩, .string xn, .string xv, .int .i64 0, .int .i64 0, .slice none 0 0, .slice none 0 0, .slice none 0 0, .slice none 0 0] (setV ⟨xn, xv⟩) (set_ba ⟨xn, xv⟩ _ _) rfl (fun _ _ h => h.elim) rfl)
      have Hob := Lib.hid (OwnS.below' BaS.still Hoa.out ((Below.refl _ _).alloc (Nat.le_refl _) (.cells #[.int .u8 83, .int .u8 0, .string ⟨#[]⟩, .string xn, .string xv, .int .i64 0, .int .i64 0, .slice none 0 0, .slice none 0 0, .slice none 0 0, .slice none 0 0] 39)))
      have HBb := Lib.hid (HBa.out.alloc hza (.cells #[.int .u8 83, .int .u8 0, .string ⟨#[]⟩, .string xn, .string xv, .int .i64 0, .int .i64 0, .slice none 0 0, .slice none 0 0, .slice none 0 0, .slice none 0 0] 39))
      go_wp2_with (at_builtin; refine step_appendBa _ rfl (.tmp 12) (.tmp 18) rfl w.heap.size _ _ rfl Hob.out (some ⟨wa.heap.size, 0, none⟩) 1 1 [setV ⟨xn, xv⟩] rfl (SliceS.weak BaS.still Hn.out (fun k' _ hk' => by have hk2 : k' = wa.heap.size := hk'; exact ⟨by omega, fun e => by have := (Hra.out k' e).2; omega⟩)) (by have := Hln.out; simp only [List.length_singleton]; omega) HBb.out.size ?_; intro v5 w5 ho5 hg5 hn5; have Ho5 := Lib.hid ho5; have HB5 := Lib.hid (HBb.out.trans (Below.of_row hg5 HBb.out.size (fun k hk => (Hra.out k hk).1))); clear ho5 hg5 hn5)
      rw [← Htk.out] at Ho5
      clear hcx
      go_roundw
      case rel => exact ⟨k + 1, by omega, by go_num, Ho5.out, HB5.out⟩
      case measure => simp [intOf]; omega
    · obtain rfl : k = l.length := by omega
      rw [List.take_length] at ho
      obtain ⟨p1, c1, hv1, hs1⟩ := OwnBa.lst ho
      subst hv1
      rw [List.length_map] at hs1 ⊢
      have Hs1 := Lib.hid hs1
      clear ho hb Ho hs1
      go_wp2_with fail
      go_ret
      exact ⟨_, _, rfl, Hs1.out, Hb.out⟩

end Go.Proofs.YthhebfknikfleaaGreat
