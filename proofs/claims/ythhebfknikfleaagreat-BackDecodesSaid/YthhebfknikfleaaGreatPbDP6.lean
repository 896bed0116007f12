/-
  Ground: FoM, FoN, BaL, BaM.
-/
import Derived.Test.YthhebfknikfleaaGreatPbDP2
import Derived.Test.YthhebfknikfleaaGreatPbDP5
/-
  Messages of clients (layer 6): the document's Str, List and Put.
-/
namespace Go.Proofs.YthhebfknikfleaaGreat
open Go.RowKit
set_option linter.unusedVariables false
set_option linter.unusedSimpArgs false

/-- Bytes with the first numbers of a list behind them. -/
def listP (b : List UInt8) (l : List Int) (size : Nat) (k : Nat) : List UInt8 := (l.take k).foldl (fun b n => putV b n size) (putV b l.length 2)
theorem listP_succ {b : List UInt8} {l : List Int} {size k : Nat} (hk : k < l.length) : listP b l size (k + 1) = putV (listP b l size k) l[k] size := by
  unfold listP
  rw [List.take_succ_eq_append_getElem hk, List.foldl_append]
  rfl
theorem listP_all (b : List UInt8) (l : List Int) (size : Nat) : listP b l size l.length = listB b l size := by
  unfold listP listB
  rw [List.take_length]
theorem listP_len (b : List UInt8) (l : List Int) (size : Nat) : ∀ k, k ≤ l.length → (listP b l size k).length ≤ b.length + 4 + 4 * k
  | 0, _ => by
    have := putV_len4 b l.length 2
    unfold listP
    simp
    omega
  | k + 1, hk => by
    have ih := listP_len b l size k (by omega)
    rw [listP_succ (by omega)]
    have := putV_len4 (listP b l size k) l[k] size
    omega
/-- Bytes with the first values of a row behind them. -/
def rowP (b : List UInt8) (l : List CeV) (k : Nat) : List UInt8 := (l.take k).foldl cellB (putV b l.length 2)
theorem rowP_succ {b : List UInt8} {l : List CeV} {k : Nat} (hk : k < l.length) : rowP b l (k + 1) = cellB (rowP b l k) l[k] := by
  unfold rowP
  rw [List.take_succ_eq_append_getElem hk, List.foldl_append]
  rfl
theorem rowP_all (b : List UInt8) (l : List CeV) : rowP b l l.length = rowB b l := by
  unfold rowP rowB
  rw [List.take_length]
theorem cellB_len (b : List UInt8) (c : CeV) : (cellB b c).length ≤ b.length + 4 + c.bytes.length := by
  unfold cellB
  split
  · have := putV_len4 b 4294967295 4
    omega
  · have := putV_len4 b c.bytes.length 4
    rw [List.length_append]
    omega
theorem rowP_len (b : List UInt8) (l : List CeV) (m : Nat) (hm : ∀ c ∈ l, c.bytes.length ≤ m) : ∀ k, k ≤ l.length → (rowP b l k).length ≤ b.length + 4 + (m + 4) * k
  | 0, _ => by
    have := putV_len4 b l.length 2
    unfold rowP
    simp
    omega
  | k + 1, hk => by
    have ih := rowP_len b l m hm k (by omega)
    rw [rowP_succ (by omega)]
    have := cellB_len (rowP b l k) l[k]
    have := hm l[k] (List.getElem_mem _)
    rw [Nat.mul_add]
    omega
theorem strB_len (b : List UInt8) (s : ByteArray) : (strB b s).length = b.length + s.size + 1 := by
  unfold strB
  rw [List.length_append, List.length_append, size_data]
  rfl

theorem putV_null (b : List UInt8) : putV b (-1) 4 = putV b 4294967295 4 := by
  unfold putV
  rw [if_pos (by decide), if_pos (by decide)]
  congr 1

theorem bel_drewN1 (w : World) : Below w.heap.size w (w.drewN 1) := ((Touch.refl (fun _ => False) w).drewN 1).below (Nat.le_refl _) (fun _ e => e.elim)

theorem rstr_any (B : Nat) (v : Value) (l : List UInt8) (s : ByteArray) (w : World) (h : OwnBR B w v l) (hB : B ≤ w.heap.size) (hl : l.length ≤ 1000000) (hs : s.size ≤ 1000000) :
    Calls Tryz.prog 47 #[v, .string s] w fun e w' => ∃ v', e = .returned v' ∧ OwnBR B w' v' (strB l s) ∧ Below B w w' := by
  have H := Lib.hid h
  have hsd : s.data.toList.length ≤ 1000000 := by rw [← size_data]; exact hs
  have hr2 : (l ++ s.data.toList).length + 1 ≤ 3000000 := by rw [List.length_append]; omega
  clear h hs
  go_enter Tryz.func47, Tryz.ntmps47
  go_wp2_with (first
    | (at_builtin; refine step_appendStr _ rfl (.tmp 5) (.tmp 6) rfl B v l rfl H.out s rfl (by omega) hB ?_; intro v5 w5 ho5 hg5 hn5; have Ho5 := Lib.hid ho5; have hz5 := hg5.size; have HB5 : Hid (Below B w w5) := Lib.hid (Below.of_row hg5 hB (fun k hk => (H.out.row k hk).1)); clear ho5 hg5 hn5)
    | (at_builtin; refine step_appendBR _ rfl (.tmp 7) (.tmp 8) rfl B v5 _ rfl (Ho5.out.alloc _) (some ⟨w5.heap.size, 0, none⟩) [0] 1 1 rfl rfl (BytesIn.new1 w5 0 0 _ rfl) (by rw [List.length_singleton]; omega) (by rw [World.size_alloc]; omega) ?_; intro v6 w6 ho6 hg6 hn6; have Ho6 := Lib.hid ho6; have HB6 : Hid (Below B w w6) := Lib.hid ((HB5.out.alloc (by omega) _).trans (Below.of_row hg6 (by rw [World.size_alloc]; omega) (fun k hk => (Ho5.out.row k hk).1))); clear ho6 hg6 hn6))
  go_ret
  exact ⟨_, rfl, Ho6.out, HB6.out⟩

set_option maxRecDepth 100000 in
set_option maxHeartbeats 4000000 in
theorem rlist_any (S : Nat → Prop) (p : Option Addr) (l : List UInt8) (cap : Nat) (q : Option Addr) (n c : Nat) (xs : List Int) (z : Int) (zn : Nat) (hz : (zn : Int) = z) (w : World) (hin : BytesIn w p l) (hx : SliceS 1 IntU S w [.slice q n c] xs) (hl : l.length ≤ 100000000) (hxl : xs.length ≤ 1000000) :
    Calls Tryz.prog 50 #[.slice p l.length cap, .slice q n c, .int .i64 z] w fun e w' => ∃ v', e = .returned v' ∧ OwnBR w.heap.size w' v' (listB l xs zn) ∧ Below w.heap.size w w' := by
  subst hz
  obtain ⟨rfl, hlc, hcm⟩ := hx.len
  unfold maxLen at hcm
  have Hx := Lib.hid hx
  have Hp := Lib.hid (putR_any p l cap (xs.length : Int) 2 w (by omega) hin)
  have Hall := Lib.hid (listP_all l xs zn)
  have Hlen := Lib.hid (fun k hk => listP_len l xs zn k hk)
  clear hx hin
  go_enter Tryz.func50, Tryz.ntmps50
  go_wp2_with fail
  refine Hp.out.mono ?_
  rintro e w1 ⟨v1, rfl, ho1, hb1⟩
  have Ho1 : Hid (OwnBR w.heap.size w1 v1 (listP l xs zn 0)) := Lib.hid (OwnBR.of ho1)
  have HB1 := Lib.hid hb1
  clear ho1 hb1 Hp
  go_wp2_with fail
  go_loopw [0, 7] (fun v i wr => ∃ k : Nat, k ≤ xs.length ∧ i = .int .i64 k ∧ OwnBR w.heap.size wr v (listP l xs zn k) ∧ Below w.heap.size w wr) (fun _ i _ => xs.length - (intOf i).toNat)
  case atStart => exact ⟨0, Nat.zero_le _, rfl, Ho1.out, HB1.out⟩
  case round =>
    obtain ⟨k, hk, rfl, ho, hb⟩ := hrel
    have hsz := hb.size
    have Hb := Lib.hid hb
    have Ho := Lib.hid ho
    by_cases hlt : k < xs.length
    · obtain ⟨b, o, rfl, hS, hbl, c0⟩ := int_at (Hx.out.below IntU.still hb) hlt
      have hlk := Hlen.out k hk
      have Hstep := Lib.hid (listP_succ (b := l) (size := zn) hlt)
      obtain ⟨p2, c2, hv2, k2, m2, q2, -⟩ := ho.slice
      subst hv2
      have Hp2 := Lib.hid (putR_any p2 (listP l xs zn k) c2 xs[k] (zn : Int) wr (by omega) q2)
      clear ho hb hS q2
      rw [← Hstep.out] at Hp2
      generalize xs[k] = x at *
      generalize (listP l xs zn k).length = nl at *
      have hlti : (k : Int) < (xs.length : Int) := by omega
      go_wp2_with fail
      refine Hp2.out.mono ?_
      rintro e w2 ⟨v3, rfl, ho3, hb3⟩
      have Ho3 : Hid (OwnBR w.heap.size w2 v3 (listP l xs zn (k + 1))) := Lib.hid (OwnR.base (OwnBR.of ho3) hsz)
      have HB3 := Lib.hid (Hb.out.trans (hb3.mono hsz))
      clear ho3 hb3 Hp2
      go_wp2_with fail
      go_roundw
      case rel => exact ⟨k + 1, by omega, by go_num, Ho3.out, HB3.out⟩
      case measure => simp [intOf]; omega
    · obtain rfl : k = xs.length := by omega
      rw [Hall.out] at ho
      have Hoe := Lib.hid ho
      clear ho hb Ho
      go_wp2_with fail
      go_ret
      exact ⟨_, rfl, Hoe.out, Hb.out⟩

set_option maxRecDepth 100000 in
set_option maxHeartbeats 4000000 in
theorem rrow_any (S : Nat → Prop) (p : Option Addr) (l : List UInt8) (cap : Nat) (q : Option Addr) (n c : Nat) (xs : List CeV) (w : World) (hin : BytesIn w p l) (hx : SliceS 2 CeS S w [.slice q n c] xs) (hl : l.length ≤ 1000000) (hxl : xs.length ≤ 10000) (hm : ∀ c ∈ xs, c.bytes.length ≤ 10000) :
    Calls Tryz.prog 48 #[.slice p l.length cap, .slice q n c] w fun e w' => ∃ v', e = .returned v' ∧ OwnBR w.heap.size w' v' (rowB l xs) ∧ Below w.heap.size w w' := by
  obtain ⟨rfl, hlc, hcm⟩ := hx.len
  unfold maxLen at hcm
  have Hx := Lib.hid hx
  have Hp := Lib.hid (putR_any p l cap (xs.length : Int) 2 w (by omega) hin)
  have Hall := Lib.hid (rowP_all l xs)
  have Hlen := Lib.hid (fun k hk => rowP_len l xs 10000 hm k hk)
  have Hm := Lib.hid hm
  clear hx hin hm
  go_enter Tryz.func48, Tryz.ntmps48
  go_wp2_with fail
  refine Hp.out.mono ?_
  rintro e w1 ⟨v1, rfl, ho1, hb1⟩
  have Ho1 : Hid (OwnBR w.heap.size w1 v1 (rowP l xs 0)) := Lib.hid (OwnBR.of ho1)
  have HB1 := Lib.hid hb1
  clear ho1 hb1 Hp
  go_wp2_with fail
  go_loopw [0, 5] (fun v i wr => ∃ k : Nat, k ≤ xs.length ∧ i = .int .i64 k ∧ OwnBR w.heap.size wr v (rowP l xs k) ∧ Below w.heap.size w wr) (fun _ i _ => xs.length - (intOf i).toNat)
  case atStart => exact ⟨0, Nat.zero_le _, rfl, Ho1.out, HB1.out⟩
  case round =>
    obtain ⟨k, hk, rfl, ho, hb⟩ := hrel
    have hsz := hb.size
    have Hb := Lib.hid hb
    have Ho := Lib.hid ho
    by_cases hlt : k < xs.length
    · obtain ⟨b, o, qx, dx, rfl, hS, hbl, c0, c1, hqx⟩ := ce_at (Hx.out.below CeS.still hb) hlt
      have hlk := Hlen.out k hk
      have hbk := Hm.out xs[k] (List.getElem_mem hlt)
      have Hstep := Lib.hid (rowP_succ (b := l) hlt)
      have Hcb : Hid (∀ b0, cellB b0 xs[k] = if xs[k].null then putV b0 4294967295 4 else putV b0 xs[k].bytes.length 4 ++ xs[k].bytes) := Lib.hid (fun _ => rfl)
      have Hqx := Lib.hid hqx.parts.2.2.2
      obtain ⟨p2, c2, hv2, k2, m2, q2, -⟩ := ho.slice
      subst hv2
      have Hq2 := Lib.hid q2
      have hl9 : (rowP l xs k).length ≤ 200000000 := by
        have : 10004 * k ≤ 10004 * 10000 := Nat.mul_le_mul (Nat.le_refl _) (by omega)
        omega
      clear ho hb hS hqx q2
      generalize xs[k] = x at *
      obtain ⟨xn, xb⟩ := x
      dsimp only at *
      have hlti : (k : Int) < (xs.length : Int) := by omega
      cases xn with
      | true =>
        have Hp2 := Lib.hid (putR_any p2 (rowP l xs k) c2 (-1) 4 wr (by omega) Hq2.out)
        rw [putV_null] at Hp2
        generalize (rowP l xs k).length = nl at *
        go_wp2_with fail
        refine Hp2.out.mono ?_
        rintro e w2 ⟨v3, rfl, ho3, hb3⟩
        have Ho3 : Hid (OwnBR w.heap.size w2 v3 (rowP l xs (k + 1))) := Lib.hid (by rw [Hstep.out, Hcb.out]; exact OwnR.base (OwnBR.of ho3) hsz)
        have HB3 := Lib.hid (Hb.out.trans (hb3.mono hsz))
        clear ho3 hb3 Hp2
        go_wp2_with fail
        go_roundw
        case rel => exact ⟨k + 1, by omega, by go_num, Ho3.out, HB3.out⟩
        case measure => simp [intOf]; omega
      | false =>
        have hpl4 := putV_len4 (rowP l xs k) (xb.length : Int) 4
        have Hp2 := Lib.hid (putR_any p2 (rowP l xs k) c2 (xb.length : Int) 4 (wr.drewN 1) (by omega) (Hq2.out.drewN 1))
        have Hqd := Lib.hid (Hqx.out.drewN 1)
        have Hnx : Hid (rowP l xs (k + 1) = putV (rowP l xs k) (xb.length : Int) 4 ++ xb) := Lib.hid (by rw [Hstep.out, Hcb.out]; rfl)
        generalize putV (rowP l xs k) (xb.length : Int) 4 = Q at *
        generalize (rowP l xs k).length = nl at *
        have hS0 : wr.cell? ⟨b, o + k * 2 + 1, none⟩ = some (.slice qx xb.length dx) := c1
        go_upto_region 7 with fail
        go_region_held3 (fun w' => w'.cell? ⟨b, o + k * 2 + 1, none⟩ = some (.slice qx xb.length dx))
          (first | exact hS0 | exact hS3 | exact hS4 | go_keep)
          (first
            | (go_at_call 46; refine Hp2.out.mono ?_; rintro e w3 ⟨v3, rfl, ho3, hb3⟩; have Ho3 : Hid (OwnBR wr.heap.size w3 v3 Q) := Lib.hid (OwnBR.of ho3); have hb3' : Below wr.heap.size wr w3 := (bel_drewN1 wr).trans hb3; have HB3 := Lib.hid hb3'; have Hq3 := Lib.hid (Hqx.out.below hb3'); have hS3 : w3.cell? ⟨b, o + k * 2 + 1, none⟩ = some (.slice qx xb.length dx) := (hb3'.cell (p := ⟨b, o + k * 2 + 1, none⟩) hbl).trans hS0; have hz3 : wr.heap.size ≤ w3.heap.size := hb3'.size; clear ho3 hb3 hb3')
            | (refine rgn_appendBR rfl (.tmp 30) (.tmp 35) rfl wr.heap.size _ _ rfl Ho3.out _ xb _ _ rfl rfl Hq3.out (by omega) hz3 ?_; intro v4 w4 ho4 hg4 _; have Ho4 := Lib.hid ho4; have hb4 : Below wr.heap.size wr w4 := HB3.out.trans (Below.of_row hg4 hz3 (fun k hk => (Ho3.out.row k hk).1)); have HB4 := Lib.hid hb4; have hS4 : w4.cell? ⟨b, o + k * 2 + 1, none⟩ = some (.slice qx xb.length dx) := (hb4.cell (p := ⟨b, o + k * 2 + 1, none⟩) hbl).trans hS0; clear ho4 hg4 hb4))
        clear hS0 hS3 hS4
        have Ho5 : Hid (OwnBR w.heap.size w4 v4 (rowP l xs (k + 1))) := Lib.hid (by rw [Hnx.out]; exact OwnR.base Ho4.out hsz)
        have HB5 := Lib.hid (Hb.out.trans (HB4.out.mono hsz))
        go_wp2_with fail
        go_roundw
        case rel => exact ⟨k + 1, by omega, by go_num, Ho5.out, HB5.out⟩
        case measure => simp [intOf]; omega
    · obtain rfl : k = xs.length := by omega
      rw [Hall.out] at ho
      have Hoe := Lib.hid ho
      clear ho hb Ho
      go_wp2_with fail
      go_ret
      exact ⟨_, rfl, Hoe.out, Hb.out⟩

end Go.Proofs.YthhebfknikfleaaGreat

/-
  Messages of clients (layer 6): the program's writer: text, list, row.
-/
namespace Go.Proofs.YthhebfknikfleaaGreat
open Go.RowKit
set_option linter.unusedVariables false
set_option linter.unusedSimpArgs false

/-- A call of a Go function as a step of a region that draws its order. -/
theorem rgn_callF {ops : Array Oper} {o : Oper} {a : Act} {w : World} {K : Act → World → Prop} {Q : Exit → Act → World → Prop} {F : Prop} (hgd : o.guard = none) (f : FuncId) (vs : Array Value) (R : Ending → World → Prop) (hC : Calls Tryz.prog f vs w R)
    (hr : (execOp a.eval o).run Tryz.prog w = .ok (.enter f vs) w) (h : ∀ e w', R e w' → ∃ v, e = .returned v ∧ K (a.put o.dst v) w') :
    if Region.wanted o (yielded ops a.tmps) = true then Oper.wp Tryz.prog o a w K Q else F := by
  have hw : Region.wanted o (yielded ops a.tmps) = true := by simp [Region.wanted, hgd]
  rw [if_pos hw]
  unfold Oper.wp
  rw [hr, Oper.upon_enter]
  refine hC.mono ?_
  intro e w' hR
  obtain ⟨v, rfl, hK⟩ := h e w' hR
  exact hK
theorem bel_drew (w : World) : Below w.heap.size w w.drew := ((Touch.refl (fun _ => False) w).drew).below (Nat.le_refl _) (fun _ e => e.elim)

/-- What a writer's step turns. -/
def wrT (wb : Nat) (v : Value) (k : Nat) : Prop := k = wb ∨ rowOf v = some k
/-- Where the row lies behind it. -/
def wrN (w : World) (v v' : Value) : Prop := ∀ k, rowOf v' = some k → rowOf v = some k ∨ w.heap.size ≤ k
section
variable {B : Nat} {w w' : World} {wb : Nat} {v v' : Value} {l l' : List UInt8}
end

/-- Bytes with the first texts behind them. -/
def textP (b : List UInt8) (ss : List ByteArray) (k : Nat) : List UInt8 := (ss.take k).foldl strB b
theorem textP_succ {b : List UInt8} {ss : List ByteArray} {k : Nat} (hk : k < ss.length) : textP b ss (k + 1) = strB (textP b ss k) ss[k] := by
  unfold textP
  rw [List.take_succ_eq_append_getElem hk, List.foldl_append]
  rfl
theorem textP_all (b : List UInt8) (ss : List ByteArray) : textP b ss ss.length = ss.foldl strB b := by
  unfold textP
  rw [List.take_length]
theorem textP_len (b : List UInt8) (ss : List ByteArray) (m : Nat) (hm : ∀ s ∈ ss, s.size ≤ m) : ∀ k, k ≤ ss.length → (textP b ss k).length ≤ b.length + (m + 1) * k
  | 0, _ => by simp [textP]
  | k + 1, hk => by
    have ih := textP_len b ss m hm k (by omega)
    rw [textP_succ (by omega), strB_len]
    have := hm ss[k] (List.getElem_mem _)
    rw [Nat.mul_add]
    omega

end Go.Proofs.YthhebfknikfleaaGreat

/-
  Messages of servers (layer 7): the program's writer: its state, text, num, column.
-/
namespace Go.Proofs.YthhebfknikfleaaGreat
open Go.RowKit
set_option linter.unusedVariables false
set_option linter.unusedSimpArgs false

/-- A writer in memory: its block holds v; the row that is being made is u; the blocks of G are guarded. -/
structure WbP (B : Nat) (G : Nat → Prop) (w : World) (wb : Nat) (v u : Value) (l : List UInt8) : Prop where
  b : Blk w wb 91 #[v]
  own : OwnBR B w u l
  no : rowOf u ≠ some wb
  ge : B ≤ wb
  gr : ∀ k, rowOf u = some k → ¬ G k
  gw : ¬ G wb
  gl : ∀ k, G k → k < w.heap.size
/-- What the writer's steps may turn. -/
def wbD (B : Nat) (G : Nat → Prop) (k : Nat) : Prop := B ≤ k ∧ ¬ G k
/-- A writer that holds its bytes. -/
def WbO (B : Nat) (G : Nat → Prop) (w : World) (wb : Nat) (l : List UInt8) : Prop := ∃ v, WbP B G w wb v v l
section
variable {B : Nat} {G G' : Nat → Prop} {w w' : World} {wb : Nat} {v u u' : Value} {l l' : List UInt8}
theorem WbP.below (h : WbP B G w wb v u l) (hb : Below w.heap.size w w') : WbP B G w' wb v u l :=
  ⟨h.b.below hb h.b.lt, h.own.below hb, h.no, h.ge, h.gr, h.gw, fun k hk => Nat.lt_of_lt_of_le (h.gl k hk) hb.size⟩
theorem WbP.drew (h : WbP B G w wb v u l) : WbP B G w.drew wb v u l := ⟨h.b, h.own.touch ((Touch.refl (fun _ => False) w).drew) (fun _ _ e => e), h.no, h.ge, h.gr, h.gw, h.gl⟩
theorem WbP.alloc (h : WbP B G w wb v u l) (o : Obj) : WbP B G (w.alloc o) wb v u l := h.below ((Below.refl _ _).alloc (Nat.le_refl _) o)
theorem WbP.grow (h : WbP B G w wb v u l) (ho : OwnBR B w' u' l') (hg : w.grownBy w' (rowOf u)) (hn : ∀ k, rowOf u' = some k → rowOf u = some k ∨ w.heap.size ≤ k) : WbP B G w' wb v u' l' ∧ Touch (wbD B G) w w' := by
  have hlt := h.b.lt
  refine ⟨⟨h.b.grown hg (fun e => h.no e.symm), ho, fun e => ?_, h.ge, fun k e hk => ?_, h.gw, fun k hk => Nat.lt_of_lt_of_le (h.gl k hk) hg.size⟩, (Touch.of_row hg).mono (fun k hk e => ?_)⟩
  · rcases hn _ e with h1 | h1
    · exact h.no h1
    · omega
  · rcases hn _ e with h1 | h1
    · exact h.gr k h1 hk
    · have := h.gl k hk; omega
  · exact ⟨(h.own.row k e.symm).1, h.gr k e.symm⟩
theorem WbP.store (h : WbP B G w wb v u l) : WbP B G (w.setCell ⟨wb, 0, none⟩ u) wb u u l ∧ Touch (wbD B G) w (w.setCell ⟨wb, 0, none⟩ u) := by
  have hT : Touch (fun k => k = wb) w (w.setCell ⟨wb, 0, none⟩ u) := (Touch.refl (fun k => k = wb) w).setCell (x := ⟨wb, 0, none⟩) (fun _ => rfl) _
  refine ⟨⟨?_, h.own.touch hT (fun k hk e => h.no (by rw [hk, e])), h.no, h.ge, h.gr, h.gw, fun k hk => Nat.lt_of_lt_of_le (h.gl k hk) hT.size⟩, hT.mono (fun k _ e => by subst e; exact ⟨h.ge, h.gw⟩)⟩
  have := h.b.set_ 0 u
  simpa using this
/-- A new row of a call's own. -/
theorem WbP.put (h : WbP B G w wb v u l) (hB : B ≤ w.heap.size) (hb : Below w.heap.size w w') (ho : OwnBR w.heap.size w' u' l') : WbP B G w' wb v u' l' := by
  have h1 := h.below hb
  have hlt := h.b.lt
  exact ⟨h1.b, OwnR.base ho hB, fun e => by have := (ho.row _ e).1; omega, h.ge, fun k e hk => by have := (ho.row k e).1; have := h.gl k hk; omega, h.gw, h1.gl⟩
theorem WbP.tbelow (h : WbP B G w wb v u l) (hb : Below w.heap.size w w') : Touch (wbD B G) w w' := Touch.of_below hb
theorem WbO.below (h : WbO B G w wb l) (hb : Below w.heap.size w w') : WbO B G w' wb l := by
  obtain ⟨v, hv⟩ := h
  exact ⟨v, hv.below hb⟩
theorem WbO.lt (h : WbO B G w wb l) : wb < w.heap.size := by
  obtain ⟨v, hv⟩ := h
  exact hv.b.lt
theorem WbO.ge (h : WbO B G w wb l) : B ≤ wb := by
  obtain ⟨v, hv⟩ := h
  exact hv.ge
/-- A new block is guarded. -/
theorem WbO.guard (h : WbO B G w wb l) (o : Obj) : WbO B (fun k => G k ∨ k = w.heap.size) (w.alloc o) wb l := by
  obtain ⟨v, hv⟩ := h
  have h1 := hv.alloc o
  have hlt := hv.b.lt
  refine ⟨v, h1.b, h1.own, h1.no, h1.ge, fun k e hk => ?_, fun hk => ?_, fun k hk => ?_⟩
  · rcases hk with hk | hk
    · exact h1.gr k e hk
    · have := (hv.own.row k e).2; omega
  · rcases hk with hk | hk
    · exact h1.gw hk
    · omega
  · rcases hk with hk | hk
    · exact h1.gl k hk
    · rw [World.size_alloc]; omega
theorem WbO.less (h : WbO B G w wb l) (hG : ∀ k, G' k → G k) : WbO B G' w wb l := by
  obtain ⟨v, hv⟩ := h
  exact ⟨v, hv.b, hv.own, hv.no, hv.ge, fun k e hk => hv.gr k e (hG k hk), fun hk => hv.gw (hG _ hk), fun k hk => hv.gl k (hG k hk)⟩
theorem wbD_less (hG : ∀ k, G k → G' k) (k : Nat) (h : wbD B G' k) : wbD B G k := ⟨h.1, fun hk => h.2 (hG k hk)⟩
/-- A new writer. -/
theorem WbO.new (B : Nat) (w : World) (hB : B ≤ w.heap.size) : WbO B (fun k => k < B) (w.alloc (.cells #[.slice none 0 0] 91)) w.heap.size [] :=
  ⟨.slice none 0 0, Blk.new _ _ _, OwnBR.empty _ _ _, by simp [rowOf], hB, fun k e => by simp [rowOf] at e, by omega, fun k hk => by rw [World.size_alloc]; omega⟩
theorem wbD_below (h : Touch (wbD B G) w w') {C : Nat} (hC : C ≤ w.heap.size) (hB : C ≤ B) : Below C w w' := h.below hC (fun k hk => Nat.le_trans hB hk.1)
end
/-- What the writer's methods leave. -/
def WbR (B : Nat) (G : Nat → Prop) (w : World) (wb : Nat) (l' : List UInt8) (e : Ending) (w' : World) : Prop :=
  e = .returned (.tuple #[]) ∧ WbO B G w' wb l' ∧ Touch (wbD B G) w w'

set_option maxRecDepth 100000 in
set_option maxHeartbeats 1000000 in
theorem btext_any (B : Nat) (G : Nat → Prop) (wb : Nat) (l : List UInt8) (s : ByteArray) (w : World) (h : WbO B G w wb l) (hB : B ≤ w.heap.size) (hl : l.length ≤ 100000000) (hs : s.size ≤ 10000000) :
    Calls Tryz.prog 42 #[.pointer (some ⟨wb, 0, none⟩), .string s] w (WbR B G w wb (strB l s)) := by
  obtain ⟨v, hv⟩ := h
  have HP := Lib.hid hv
  have hwl := hv.b.lt
  have hcw := hv.b.cell
  have hsd : s.data.toList.length ≤ 10000000 := by rw [← size_data]; exact hs
  have hr2 : (l ++ s.data.toList).length + 1 ≤ 400000000 := by rw [List.length_append]; omega
  have Hst : Hid (strB l s = (l ++ s.data.toList) ++ [0]) := Lib.hid rfl
  clear hv
  go_enter Tryz.func42, Tryz.ntmps42
  go_wp2_with (first
    | (at_builtin; refine step_appendStr _ rfl (.tmp 8) (.tmp 9) rfl B v l rfl HP.out.own s rfl (by omega) hB ?_; intro v5 w5 ho5 hg5 hn5; have HG5 := Lib.hid (HP.out.grow ho5 hg5 hn5); have hz5 := hg5.size; clear ho5 hg5 hn5)
    | (at_builtin; refine step_appendBR _ rfl (.tmp 10) (.tmp 11) rfl B v5 _ rfl (HG5.out.1.own.alloc _) (some ⟨w5.heap.size, 0, none⟩) [0] 1 1 rfl rfl (BytesIn.new1 w5 0 0 _ rfl) (by rw [List.length_singleton]; omega) (by rw [World.size_alloc]; omega) ?_; intro v6 w6 ho6 hg6 hn6; obtain ⟨n6, p6, c6, hv6⟩ : ∃ n p c, v6 = .slice p n c := (by obtain ⟨p, c, h, _⟩ := OwnBR.slice ho6; exact ⟨_, p, c, h⟩); subst hv6; have HG6 := Lib.hid ((HG5.out.1.alloc _).grow ho6 hg6 hn6); have hcw6 := HG6.out.1.b.cell; have hfw6 := HG6.out.1.b.frozen; clear ho6 hg6 hn6))
  have HS := Lib.hid HG6.out.1.store
  have HT : Hid (Touch (wbD B G) w (w6.setCell ⟨wb, 0, none⟩ (.slice p6 n6 c6))) := Lib.hid ((((HG5.out.2).alloc _).trans HG6.out.2).trans HS.out.2)
  rw [← Hst.out] at HS
  clear hcw hcw6 hfw6
  go_end0
  exact ⟨rfl, ⟨_, HS.out.1⟩, HT.out⟩

set_option maxRecDepth 100000 in
set_option maxHeartbeats 1000000 in
theorem bnum_any (B : Nat) (G : Nat → Prop) (wb : Nat) (l : List UInt8) (n : Int) (z : Int) (w : World) (h : WbO B G w wb l) (hB : B ≤ w.heap.size) (hl : l.length ≤ 1000000000) :
    Calls Tryz.prog 41 #[.pointer (some ⟨wb, 0, none⟩), .int .i64 n, .int .i64 z] w (WbR B G w wb (putV l n z)) := by
  obtain ⟨v, hv⟩ := h
  have HP := Lib.hid hv
  have hwl := hv.b.lt
  have hcw := hv.b.cell
  obtain ⟨p0, c0, hv0, -, -, q0, -⟩ := hv.own.slice
  subst hv0
  have Hp := Lib.hid (put_any p0 l c0 n z w hl q0)
  clear hv q0
  generalize l.length = nl at *
  go_enter Tryz.func41, Tryz.ntmps41
  go_wp2_with fail
  refine Hp.out.mono ?_
  rintro e w1 ⟨v1, rfl, ho1, hb1⟩
  have HP1 := Lib.hid (HP.out.put hB hb1 (OwnBR.of ho1))
  obtain ⟨n1, p1, c1, hv1⟩ : ∃ n p c, v1 = .slice p n c := (by obtain ⟨p, c, h, _⟩ := (OwnBR.of ho1).slice; exact ⟨_, p, c, h⟩)
  subst hv1
  have hc1 := HP1.out.b.cell
  have hf1 := HP1.out.b.frozen
  have HS := Lib.hid HP1.out.store
  have HT : Hid (Touch (wbD B G) w (w1.setCell ⟨wb, 0, none⟩ (.slice p1 n1 c1))) := Lib.hid ((Touch.of_below hb1).trans HS.out.2)
  clear ho1 hb1 hcw Hp
  go_wp2_with fail
  go_end0
  exact ⟨rfl, ⟨_, HS.out.1⟩, HT.out⟩

/-- A writer beside a guarded block. -/
structure WbG (B : Nat) (G : Nat → Prop) (w0 w : World) (wb g : Nat) (t : TypeId) (cs : Array Value) (l : List UInt8) : Prop where
  o : WbO B (fun k => G k ∨ k = g) w wb l
  b : Blk w g t cs
  t : Touch (wbD B G) w0 w
  hz : B ≤ w.heap.size
section
variable {B : Nat} {G : Nat → Prop} {w0 w w' : World} {wb g : Nat} {t : TypeId} {cs : Array Value} {l l' : List UInt8}
theorem WbG.start (h : WbO B G w wb l) (hB : B ≤ w.heap.size) (t : TypeId) (cs : Array Value) : WbG B G w (w.alloc (.cells cs t)) wb w.heap.size t cs l :=
  ⟨h.guard _, Blk.new _ _ _, (Touch.refl _ _).alloc _, by rw [World.size_alloc]; omega⟩
theorem WbG.step (h : WbG B G w0 w wb g t cs l) (ho : WbO B (fun k => G k ∨ k = g) w' wb l') (hT : Touch (wbD B (fun k => G k ∨ k = g)) w w') : WbG B G w0 w' wb g t cs l' :=
  ⟨ho, hT.blk h.b (fun e => e.2 (.inr rfl)), h.t.trans (hT.mono (fun k _ hk => ⟨hk.1, fun e => hk.2 (.inl e)⟩)), Nat.le_trans h.hz hT.size⟩
theorem WbG.done (h : WbG B G w0 w wb g t cs l) : WbO B G w wb l := h.o.less (fun k hk => .inl hk)
end

theorem colW_len (b : List UInt8) (c : CoV) : (colW b c).length ≤ b.length + c.name.size + 25 := by
  unfold colW
  have h0 := strB_len b c.name
  have h1 := putV_len4 (strB b c.name) c.table 4
  have h2 := putV_len4 (putV (strB b c.name) c.table 4) c.attr 2
  have h3 := putV_len4 (putV (putV (strB b c.name) c.table 4) c.attr 2) c.oid 4
  have h4 := putV_len4 (putV (putV (putV (strB b c.name) c.table 4) c.attr 2) c.oid 4) c.size 2
  have h5 := putV_len4 (putV (putV (putV (putV (strB b c.name) c.table 4) c.attr 2) c.oid 4) c.size 2) c.mod 4
  have h6 := putV_len4 (putV (putV (putV (putV (putV (strB b c.name) c.table 4) c.attr 2) c.oid 4) c.size 2) c.mod 4) c.format 2
  omega

set_option maxRecDepth 100000 in
set_option maxHeartbeats 4000000 in
theorem bcolumn_any (B : Nat) (G : Nat → Prop) (wb : Nat) (l : List UInt8) (x : CoV) (w : World) (h : WbO B G w wb l) (hB : B ≤ w.heap.size) (hl : l.length ≤ 90000000) (hs : x.name.size ≤ 1000000) :
    Calls Tryz.prog 44 #[.pointer (some ⟨wb, 0, none⟩), .agg #[.string x.name, .int .i64 x.table, .int .i64 x.attr, .int .i64 x.oid, .int .i64 x.size, .int .i64 x.mod, .int .i64 x.format]] w (WbR B G w wb (colW l x)) := by
  have H0 := Lib.hid (WbG.start h hB 79 #[.string x.name, .int .i64 x.table, .int .i64 x.attr, .int .i64 x.oid, .int .i64 x.size, .int .i64 x.mod, .int .i64 x.format])
  have Hc : Hid (colW l x = putV (putV (putV (putV (putV (putV (strB l x.name) x.table 4) x.attr 2) x.oid 4) x.size 2) x.mod 4) x.format 2) := Lib.hid rfl
  have k0 := strB_len l x.name
  have k1 := putV_len4 (strB l x.name) x.table 4
  have k2 := putV_len4 (putV (strB l x.name) x.table 4) x.attr 2
  have k3 := putV_len4 (putV (putV (strB l x.name) x.table 4) x.attr 2) x.oid 4
  have k4 := putV_len4 (putV (putV (putV (strB l x.name) x.table 4) x.attr 2) x.oid 4) x.size 2
  have k5 := putV_len4 (putV (putV (putV (putV (strB l x.name) x.table 4) x.attr 2) x.oid 4) x.size 2) x.mod 4
  have K := Lib.hid (And.intro k0 (And.intro k1 (And.intro k2 (And.intro k3 (And.intro k4 k5)))))
  clear k0 k1 k2 k3 k4 k5 h
  generalize colW l x = res at *
  obtain ⟨xn, xt, xa, xo, xs, xm, xf⟩ := x
  dsimp only at *
  have HC : Hid (∀ (w1 : World) (l1 : List UInt8), WbG B G w w1 wb w.heap.size 79 #[.string xn, .int .i64 xt, .int .i64 xa, .int .i64 xo, .int .i64 xs, .int .i64 xm, .int .i64 xf] l1 → ∀ i, w1.cell? ⟨w.heap.size, i, none⟩ = (#[.string xn, .int .i64 xt, .int .i64 xa, .int .i64 xo, .int .i64 xs, .int .i64 xm, .int .i64 xf] : Array Value)[i]?) := Lib.hid (fun w1 l1 H => H.b.cell)
  go_enter Tryz.func44, Tryz.ntmps44
  go_upto_region 1 with fail
  generalize w.alloc (.cells #[.string xn, .int .i64 xt, .int .i64 xa, .int .i64 xo, .int .i64 xs, .int .i64 xm, .int .i64 xf] 79) = w1 at *
  have hc := HC.out _ _ H0.out
  have Hk := Lib.hid (btext_any _ _ _ _ xn _ H0.out.o H0.out.hz (by omega) (by omega))
  unfold WbR at Hk
  go_wp2_with fail
  refine Hk.out.mono ?_
  rintro e w2 ⟨rfl, ho, hT⟩
  have H1 := Lib.hid (H0.out.step ho hT)
  clear ho hT hc Hk H0
  have hc := HC.out _ _ H1.out
  have Hk := Lib.hid (bnum_any _ _ _ _ xt 4 _ H1.out.o H1.out.hz (by have := K.out; omega))
  unfold WbR at Hk
  go_wp2_with fail
  refine Hk.out.mono ?_
  rintro e w3 ⟨rfl, ho, hT⟩
  have H2 := Lib.hid (H1.out.step ho hT)
  clear ho hT hc Hk H1
  have hc := HC.out _ _ H2.out
  have Hk := Lib.hid (bnum_any _ _ _ _ xa 2 _ H2.out.o H2.out.hz (by have := K.out; omega))
  unfold WbR at Hk
  go_wp2_with fail
  refine Hk.out.mono ?_
  rintro e w4 ⟨rfl, ho, hT⟩
  have H3 := Lib.hid (H2.out.step ho hT)
  clear ho hT hc Hk H2
  have hc := HC.out _ _ H3.out
  have Hk := Lib.hid (bnum_any _ _ _ _ xo 4 _ H3.out.o H3.out.hz (by have := K.out; omega))
  unfold WbR at Hk
  go_wp2_with fail
  refine Hk.out.mono ?_
  rintro e w5 ⟨rfl, ho, hT⟩
  have H4 := Lib.hid (H3.out.step ho hT)
  clear ho hT hc Hk H3
  have hc := HC.out _ _ H4.out
  have Hk := Lib.hid (bnum_any _ _ _ _ xs 2 _ H4.out.o H4.out.hz (by have := K.out; omega))
  unfold WbR at Hk
  go_wp2_with fail
  refine Hk.out.mono ?_
  rintro e w6 ⟨rfl, ho, hT⟩
  have H5 := Lib.hid (H4.out.step ho hT)
  clear ho hT hc Hk H4
  have hc := HC.out _ _ H5.out
  have Hk := Lib.hid (bnum_any _ _ _ _ xm 4 _ H5.out.o H5.out.hz (by have := K.out; omega))
  unfold WbR at Hk
  go_wp2_with fail
  refine Hk.out.mono ?_
  rintro e w7 ⟨rfl, ho, hT⟩
  have H6 := Lib.hid (H5.out.step ho hT)
  clear ho hT hc Hk H5
  have hc := HC.out _ _ H6.out
  have Hk := Lib.hid (bnum_any _ _ _ _ xf 2 _ H6.out.o H6.out.hz (by have := K.out; omega))
  unfold WbR at Hk
  go_wp2_with fail
  refine Hk.out.mono ?_
  rintro e w8 ⟨rfl, ho, hT⟩
  have H7 := Lib.hid (H6.out.step ho hT)
  clear ho hT hc Hk H6
  rw [← Hc.out] at H7
  go_wp2_with fail
  go_end0
  exact ⟨rfl, H7.out.done, H7.out.t⟩

end Go.Proofs.YthhebfknikfleaaGreat

/-
  Messages of servers (layer 7): the program's writer: row, fields.
-/
namespace Go.Proofs.YthhebfknikfleaaGreat
open Go.RowKit
set_option linter.unusedVariables false
set_option linter.unusedSimpArgs false

theorem byte_back {k : Int} (h0 : 0 ≤ k) (h1 : k < 256) : (((UInt8.ofNat k.toNat).toNat : Nat) : Int) = k := by simp; omega

set_option maxRecDepth 100000 in
set_option maxHeartbeats 4000000 in
theorem bwrow_any (B : Nat) (G : Nat → Prop) (wb : Nat) (l : List UInt8) (S : Nat → Prop) (p : Option Addr) (n c : Nat) (xs : List CeV) (w : World) (h : WbO B G w wb l) (hB : B ≤ w.heap.size) (hx : SliceS 2 CeS S w [.slice p n c] xs) (hS : ∀ k, k < w.heap.size → S k → ¬ wbD B G k)
    (hl : l.length ≤ 10000000) (hxl : xs.length ≤ 10000) (hm : ∀ c ∈ xs, c.bytes.length ≤ 10000) :
    Calls Tryz.prog 43 #[.pointer (some ⟨wb, 0, none⟩), .slice p n c] w (WbR B G w wb (rowB l xs)) := by
  obtain ⟨rfl, hlc, hcm⟩ := hx.len
  unfold maxLen at hcm
  have Hx := Lib.hid hx
  have HS := Lib.hid hS
  have Hall := Lib.hid (rowP_all l xs)
  have Hlen := Lib.hid (fun k hk => rowP_len l xs 10000 hm k hk)
  have Hm := Lib.hid hm
  have Hp := Lib.hid (bnum_any B G wb l (xs.length : Int) 2 w h hB (by omega))
  unfold WbR at Hp
  clear h hx hS hm
  generalize hnl : l.length = nl at *
  have Hnl := Lib.hid hnl
  clear hnl
  go_enter Tryz.func43, Tryz.ntmps43
  go_wp2_with fail
  refine Hp.out.mono ?_
  rintro e w1 ⟨rfl, ho1, hT1⟩
  have H1 : Hid (WbO B G w1 wb (rowP l xs 0)) := Lib.hid ho1
  have HT1 := Lib.hid hT1
  clear ho1 hT1 Hp
  go_wp2_with fail
  go_loopw [12] (fun i wr => ∃ k : Nat, k ≤ xs.length ∧ i = .int .i64 k ∧ WbO B G wr wb (rowP l xs k) ∧ Touch (wbD B G) w wr) (fun i _ => xs.length - (intOf i).toNat)
  case atStart => exact ⟨0, Nat.zero_le _, rfl, H1.out, HT1.out⟩
  case round =>
    obtain ⟨k, hk, rfl, hw, hT⟩ := hrel
    have hsz := hT.size
    have HW := Lib.hid hw
    have HT := Lib.hid hT
    by_cases hlt : k < xs.length
    · have hxr := (SliceS.still CeS.still) _ _ _ _ _ _ Hx.out (Kept.touch (S' := fun k => ¬ wbD B G k) hT (fun k hk hs => ⟨HS.out k hk hs, HS.out k hk hs⟩))
      obtain ⟨b, o, qx, dx, rfl, _, hbl, c0, c1', hqx⟩ := ce_at hxr hlt
      have hlk := Hlen.out k hk
      have hbk := Hm.out xs[k] (List.getElem_mem hlt)
      have hl9 : (rowP l xs k).length ≤ 200000000 := by
        have : 10004 * k ≤ 10004 * 10000 := Nat.mul_le_mul (Nat.le_refl _) (by omega)
        omega
      have Hstep := Lib.hid (rowP_succ (b := l) hlt)
      have Hcb : Hid (∀ b0, cellB b0 xs[k] = if xs[k].null then putV b0 4294967295 4 else putV b0 xs[k].bytes.length 4 ++ xs[k].bytes) := Lib.hid (fun _ => rfl)
      obtain ⟨qx', dx', e', _, _, hqi, hqb⟩ := hqx
      simp only [List.cons.injEq, Value.slice.injEq, and_true] at e'
      obtain ⟨rfl, -, rfl⟩ := e'
      have Hqx := Lib.hid (And.intro hqi hqb)
      clear hqi hqb
      have hBr : B ≤ wr.heap.size := by omega
      clear hw hT hxr hlk
      generalize xs[k] = x at *
      obtain ⟨xn, xb⟩ := x
      dsimp only at *
      have hlti : (k : Int) < (xs.length : Int) := by omega
      have HA := Lib.hid (WbG.start HW.out hBr 83 #[.bool xn, .slice qx xb.length dx])
      go_upto_region 4 with fail
      clear c0 c1' hbl HW
      generalize wr.alloc (.cells #[.bool xn, .slice qx xb.length dx] 83) = wa at *
      generalize hg5 : wr.heap.size = g5 at *
      have hcg := HA.out.b.cell
      cases xn with
      | true =>
        have Hk := Lib.hid (bnum_any _ _ _ _ 4294967295 4 wa HA.out.o HA.out.hz (by omega))
        have Hnx : Hid (rowP l xs (k + 1) = putV (rowP l xs k) 4294967295 4) := Lib.hid (by rw [Hstep.out, Hcb.out]; rfl)
        rw [← Hnx.out] at Hk
        unfold WbR at Hk
        go_wp2_with fail
        refine Hk.out.mono ?_
        rintro e w4 ⟨rfl, ho4, hT4⟩
        have H4 := Lib.hid (HA.out.step ho4 hT4)
        clear ho4 hT4 Hk hcg
        go_wp2_with fail
        go_roundw
        case rel => exact ⟨k + 1, by omega, by go_num, H4.out.done, HT.out.trans H4.out.t⟩
        case measure => simp [intOf]; omega
      | false =>
        have hpl4 := putV_len4 (rowP l xs k) (xb.length : Int) 4
        have Hk := Lib.hid (bnum_any _ _ _ _ (xb.length : Int) 4 wa HA.out.o HA.out.hz (by omega))
        have Hnx : Hid (rowP l xs (k + 1) = putV (rowP l xs k) (xb.length : Int) 4 ++ xb) := Lib.hid (by rw [Hstep.out, Hcb.out]; rfl)
        unfold WbR at Hk
        generalize putV (rowP l xs k) (xb.length : Int) 4 = Q at *
        generalize (rowP l xs k).length = n3 at *
        go_wp2_with fail
        refine Hk.out.mono ?_
        rintro e w4 ⟨rfl, ho4, hT4⟩
        have H4 := Lib.hid (HA.out.step ho4 hT4)
        clear ho4 hT4 Hk hcg
        have hcg := H4.out.b.cell
        have hq4 := H4.out.t.bytesIn Hqx.out.1 (fun hne a e => Hqx.out.2 hne a e)
        have Hq4 := Lib.hid hq4
        have hB4 := H4.out.hz
        obtain ⟨v4, hv4⟩ := H4.out.o
        have HV := Lib.hid hv4
        have hcw := hv4.b.cell
        have hwl := hv4.b.lt
        clear hv4 hq4
        go_upto_region 7 with fail
        go_region_law (refine rgn_appendBR rfl (.tmp 29) (.tmp 31) rfl B v4 Q rfl HV.out.drew.own qx xb _ dx rfl rfl (Hq4.out.below (bel_drew w4)) (by omega) hB4 ?_; intro v5 w5 ho5 hg5 hn5; obtain ⟨n5, p5, c5, hv5⟩ : ∃ n p c, v5 = .slice p n c := (by obtain ⟨p, c, h, _⟩ := OwnBR.slice ho5; exact ⟨_, p, c, h⟩); subst hv5; have HG5 := Lib.hid (HV.out.drew.grow ho5 hg5 hn5); have hc5 := HG5.out.1.b.cell; have hf5 := HG5.out.1.b.frozen; have hk5 : ∀ i, w5.cell? ⟨g5, i, none⟩ = (#[.bool false, .slice qx xb.length dx] : Array Value)[i]? := (HG5.out.2.blk (Blk.drew H4.out.b) (fun e => e.2 (.inr rfl))).cell; clear ho5 hg5 hn5)
        all_goals
          have HS5 := Lib.hid HG5.out.1.store
          rw [← Hnx.out] at HS5
          have H6 := Lib.hid (H4.out.step ⟨_, HS5.out.1⟩ ((((Touch.refl _ w4).drew).trans HG5.out.2).trans HS5.out.2))
          clear hcg hcw hc5 hf5 hk5
          go_wp2_with fail
          go_roundw
          case rel => exact ⟨k + 1, by omega, by go_num, H6.out.done, HT.out.trans H6.out.t⟩
          case measure => simp [intOf]; omega
    · obtain rfl : k = xs.length := by omega
      rw [Hall.out] at hw
      have HWe := Lib.hid hw
      clear hw hT HW
      go_wp2_with fail
      go_end0
      exact ⟨rfl, HWe.out, HT.out⟩

/-- Bytes with the first fields of a list behind them. -/
def fldP (b : List UInt8) (l : List FdV) (k : Nat) : List UInt8 := (l.take k).foldl fieldW b
theorem fldP_succ {b : List UInt8} {l : List FdV} {k : Nat} (hk : k < l.length) : fldP b l (k + 1) = strB (fldP b l k ++ [UInt8.ofNat l[k].code.toNat]) l[k].text := by
  unfold fldP
  rw [List.take_succ_eq_append_getElem hk, List.foldl_append]
  rfl
theorem fldP_all (b : List UInt8) (l : List FdV) : fldP b l l.length = l.foldl fieldW b := by
  unfold fldP
  rw [List.take_length]
theorem fldP_len (b : List UInt8) (l : List FdV) (m : Nat) (hm : ∀ c ∈ l, c.text.size ≤ m) : ∀ k, k ≤ l.length → (fldP b l k).length ≤ b.length + (m + 2) * k
  | 0, _ => by simp [fldP]
  | k + 1, hk => by
    have ih := fldP_len b l m hm k (by omega)
    rw [fldP_succ (by omega), strB_len, List.length_append, List.length_singleton]
    have := hm l[k] (List.getElem_mem _)
    rw [Nat.mul_add]
    omega

set_option maxRecDepth 100000 in
set_option maxHeartbeats 4000000 in
theorem bwfields_any (B : Nat) (G : Nat → Prop) (wb : Nat) (l : List UInt8) (S : Nat → Prop) (p : Option Addr) (n c : Nat) (xs : List FdV) (w : World) (h : WbO B G w wb l) (hB : B ≤ w.heap.size) (hx : SliceS 2 FdS S w [.slice p n c] xs) (hS : ∀ k, k < w.heap.size → S k → ¬ wbD B G k)
    (hl : l.length ≤ 1000000) (hxl : xs.length ≤ 1000) (hm : ∀ c ∈ xs, c.text.size ≤ 10000) :
    Calls Tryz.prog 45 #[.pointer (some ⟨wb, 0, none⟩), .slice p n c] w (WbR B G w wb (xs.foldl fieldW l ++ [0])) := by
  obtain ⟨rfl, hlc, hcm⟩ := hx.len
  unfold maxLen at hcm
  have Hx := Lib.hid hx
  have HS := Lib.hid hS
  have Hall := Lib.hid (fldP_all l xs)
  have Hlen := Lib.hid (fun k hk => fldP_len l xs 10000 hm k hk)
  have Hm := Lib.hid hm
  have H1 : Hid (WbO B G w wb (fldP l xs 0)) := Lib.hid h
  clear h hx hS hm
  generalize hnl : l.length = nl at *
  have Hnl := Lib.hid hnl
  clear hnl
  go_enter Tryz.func45, Tryz.ntmps45
  go_wp2_with fail
  go_loopw [8] (fun i wr => ∃ k : Nat, k ≤ xs.length ∧ i = .int .i64 k ∧ WbO B G wr wb (fldP l xs k) ∧ Touch (wbD B G) w wr) (fun i _ => xs.length - (intOf i).toNat)
  case atStart => exact ⟨0, Nat.zero_le _, rfl, H1.out, Touch.refl _ _⟩
  case round =>
    obtain ⟨k, hk, rfl, hw, hT⟩ := hrel
    have hsz := hT.size
    have HW := Lib.hid hw
    have HT := Lib.hid hT
    have hlk := Hlen.out k hk
    have hl9 : (fldP l xs k).length ≤ 20000000 := by
      have : 10002 * k ≤ 10002 * 1000 := Nat.mul_le_mul (Nat.le_refl _) (by omega)
      omega
    clear hlk
    have hBr : B ≤ wr.heap.size := by omega
    by_cases hlt : k < xs.length
    · have hxr := (SliceS.still FdS.still) _ _ _ _ _ _ Hx.out (Kept.touch (S' := fun k => ¬ wbD B G k) hT (fun k hk hs => ⟨HS.out k hk hs, HS.out k hk hs⟩))
      obtain ⟨b, o, rfl, _, hbl, c0, c1', hq, hq0, hq1⟩ := fd_at hxr hlt
      have hbk := Hm.out xs[k] (List.getElem_mem hlt)
      have Hstep := Lib.hid (fldP_succ (b := l) hlt)
      have Hby := Lib.hid (byte_back hq0 hq1)
      clear hw hT hxr hq
      generalize xs[k] = x at *
      obtain ⟨xc, xt⟩ := x
      dsimp only at *
      have hlti : (k : Int) < (xs.length : Int) := by omega
      have HA := Lib.hid (WbG.start HW.out hBr 87 #[.int .u8 xc, .string xt])
      go_upto_region 3 with fail
      clear c0 c1' hbl HW
      generalize wr.alloc (.cells #[.int .u8 xc, .string xt] 87) = wa at *
      generalize hg5 : wr.heap.size = g5 at *
      have hcg := HA.out.b.cell
      have hB4 := HA.out.hz
      obtain ⟨v4, hv4⟩ := HA.out.o
      have HV := Lib.hid hv4
      have hcw := hv4.b.cell
      have hwl := hv4.b.lt
      clear hv4
      generalize hQ : fldP l xs k = Q at *
      clear hQ
      go_region_law (refine rgn_appendBR rfl (.tmp 16) (.tmp 19) rfl B v4 Q rfl (HV.out.alloc _).drew.own _ [UInt8.ofNat xc.toNat] _ _ rfl rfl ((BytesIn.new1 wa _ xc _ Hby.out).below (bel_drew _)) (by rw [List.length_singleton]; omega) (show B ≤ (wa.alloc _).heap.size by rw [World.size_alloc]; exact Nat.le_succ_of_le hB4) ?_; intro v5 w5 ho5 hg5 hn5; obtain ⟨n5, p5, c5, hv5⟩ : ∃ n p c, v5 = .slice p n c := (by obtain ⟨p, c, h, _⟩ := OwnBR.slice ho5; exact ⟨_, p, c, h⟩); subst hv5; have HG5 := Lib.hid ((HV.out.alloc _).drew.grow ho5 hg5 hn5); have hc5 := HG5.out.1.b.cell; have hf5 := HG5.out.1.b.frozen; have hk5 : ∀ i, w5.cell? ⟨g5, i, none⟩ = (#[.int .u8 xc, .string xt] : Array Value)[i]? := (HG5.out.2.blk (Blk.drew (HA.out.b.alloc _)) (fun e => e.2 (.inr rfl))).cell; clear ho5 hg5 hn5)
      all_goals
        have HS5 := Lib.hid HG5.out.1.store
        have H6 := Lib.hid (HA.out.step ⟨_, HS5.out.1⟩ (((((Touch.refl _ wa).alloc _).drew).trans HG5.out.2).trans HS5.out.2))
        clear hcg hcw hc5 hf5 hk5
        generalize w5.setCell ⟨wb, 0, none⟩ (.slice p5 n5 c5) = w6 at *
        have hcg := H6.out.b.cell
        have Hk := Lib.hid (btext_any _ _ _ _ xt w6 H6.out.o H6.out.hz (by rw [List.length_append, List.length_singleton]; omega) (by omega))
        rw [← Hstep.out] at Hk
        unfold WbR at Hk
        go_wp2_with fail
        refine Hk.out.mono ?_
        rintro e w7 ⟨rfl, ho7, hT7⟩
        have H7 := Lib.hid (H6.out.step ho7 hT7)
        clear ho7 hT7 Hk hcg
        go_wp2_with fail
        go_roundw
        case rel => exact ⟨k + 1, by omega, by go_num, H7.out.done, HT.out.trans H7.out.t⟩
        case measure => simp [intOf]; omega
    · obtain rfl : k = xs.length := by omega
      rw [Hall.out] at hw hl9
      obtain ⟨v, hv⟩ := hw
      have HV := Lib.hid hv
      have hcw := hv.b.cell
      have hwl := hv.b.lt
      clear hv hT HW
      generalize xs.foldl fieldW l = Q at *
      go_wp2_with (at_builtin; refine step_appendBR _ rfl (.tmp 32) (.tmp 33) rfl B v Q rfl (HV.out.own.alloc _) (some ⟨wr.heap.size, 0, none⟩) [0] 1 1 rfl rfl (BytesIn.new1 wr 0 0 _ rfl) (by rw [List.length_singleton]; omega) (by rw [World.size_alloc]; omega) ?_; intro v6 w6 ho6 hg6 hn6; obtain ⟨n6, p6, c6, hv6⟩ : ∃ n p c, v6 = .slice p n c := (by obtain ⟨p, c, h, _⟩ := OwnBR.slice ho6; exact ⟨_, p, c, h⟩); subst hv6; have HG6 := Lib.hid ((HV.out.alloc _).grow ho6 hg6 hn6); have hcw6 := HG6.out.1.b.cell; have hfw6 := HG6.out.1.b.frozen; clear ho6 hg6 hn6)
      have HS6 := Lib.hid HG6.out.1.store
      have HT6 : Hid (Touch (wbD B G) w (w6.setCell ⟨wb, 0, none⟩ (.slice p6 n6 c6))) := Lib.hid (((HT.out.alloc _).trans HG6.out.2).trans HS6.out.2)
      clear hcw hcw6 hfw6
      go_end0
      exact ⟨rfl, ⟨_, HS6.out.1⟩, HT6.out⟩

end Go.Proofs.YthhebfknikfleaaGreat

