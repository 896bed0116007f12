/-
  Messages of clients (layer 6): the document's Str, List and Put.
-/
import Derived.Test.YtldjfmddjbdciaaFoA
import Derived.Test.YtldjfmddjbdciaaPackB
namespace Go.Proofs.Ytldjfmddjbdciaa
open Go.RowKit
set_option linter.unusedVariables false
set_option linter.unusedSimpArgs false

/-- Bytes with the first numbers of a list behind them. -/
def listP (b : List UInt8) (l : List Int) (size : Nat) (k : Nat) : List UInt8 := (l.take k).foldl (fun b n => putV b n size) (putV b l.length 2)
theorem listP_succ {b : List UInt8} {l : List Int} {size k : Nat} (hk : k < l.length) : listP b l size (k + 1) = putV (listP b l size k) l[k] size := by
  unfold listP
  rw [List.take_succ_eq_append_getElem hk, List.foldl_append]
  rfl
theorem listP_all (b : List UInt8) (l : List Int) (size : Nat) : listP b l size l.length = listB b l size := by
  unfold listP listB
  rw [List.take_length]
theorem listP_len (b : List UInt8) (l : List Int) (size : Nat) : ∀ k, k ≤ l.length → (listP b l size k).length ≤ b.length + 4 + 4 * k
  | 0, _ => by
    have := putV_len4 b l.length 2
    unfold listP
    simp
    omega
  | k + 1, hk => by
    have ih := listP_len b l size k (by omega)
    rw [listP_succ (by omega)]
    have := putV_len4 (listP b l size k) l[k] size
    omega
/-- Bytes with the first values of a row behind them. -/
def rowP (b : List UInt8) (l : List CeV) (k : Nat) : List UInt8 := (l.take k).foldl cellB (putV b l.length 2)
theorem rowP_succ {b : List UInt8} {l : List CeV} {k : Nat} (hk : k < l.length) : rowP b l (k + 1) = cellB (rowP b l k) l[k] := by
  unfold rowP
  rw [List.take_succ_eq_append_getElem hk, List.foldl_append]
  rfl
theorem rowP_all (b : List UInt8) (l : List CeV) : rowP b l l.length = rowB b l := by
  unfold rowP rowB
  rw [List.take_length]
theorem cellB_len (b : List UInt8) (c : CeV) : (cellB b c).length ≤ b.length + 4 + c.bytes.length := by
  unfold cellB
  split
  · have := putV_len4 b 4294967295 4
    omega
  · have := putV_len4 b c.bytes.length 4
    rw [List.length_append]
    omega
theorem rowP_len (b : List UInt8) (l : List CeV) (m : Nat) (hm : ∀ c ∈ l, c.bytes.length ≤ m) : ∀ k, k ≤ l.length → (rowP b l k).length ≤ b.length + 4 + (m + 4) * k
  | 0, _ => by
    have := putV_len4 b l.length 2
    unfold rowP
    simp
    omega
  | k + 1, hk => by
    have ih := rowP_len b l m hm k (by omega)
    rw [rowP_succ (by omega)]
    have := cellB_len (rowP b l k) l[k]
    have := hm l[k] (List.getElem_mem _)
    rw [Nat.mul_add]
    omega
theorem strB_len (b : List UInt8) (s : ByteArray) : (strB b s).length = b.length + s.size + 1 := by
  unfold strB
  rw [List.length_append, List.length_append, size_data]
  rfl

theorem putV_null (b : List UInt8) : putV b (-1) 4 = putV b 4294967295 4 := by
  unfold putV
  rw [if_pos (by decide), if_pos (by decide)]
  congr 1

theorem bel_drewN1 (w : World) : Below w.heap.size w (w.drewN 1) := ((Touch.refl (fun _ => False) w).drewN 1).below (Nat.le_refl _) (fun _ e => e.elim)

theorem rstr_any (B : Nat) (v : Value) (l : List UInt8) (s : ByteArray) (w : World) (h : OwnBR B w v l) (hB : B ≤ w.heap.size) (hl : l.length ≤ 1000000) (hs : s.size ≤ 1000000) :
    Calls Try.prog 54 #[v, .string s] w fun e w' => ∃ v', e = .returned v' ∧ OwnBR B w' v' (strB l s) ∧ Below B w w' := by
  have H := Lib.hid h
  have hsd : s.data.toList.length ≤ 1000000 := by rw [← size_data]; exact hs
  have hr2 : (l ++ s.data.toList).length + 1 ≤ 3000000 := by rw [List.length_append]; omega
  clear h hs
  go_enter Try.func54, Try.ntmps54
  go_wp2_with (first
    | (at_builtin; refine step_appendStr _ rfl (.tmp 5) (.tmp 6) rfl B v l rfl H.out s rfl (by omega) hB ?_; intro v5 w5 ho5 hg5 hn5; have Ho5 := Lib.hid ho5; have hz5 := hg5.size; have HB5 : Hid (Below B w w5) := Lib.hid (Below.of_row hg5 hB (fun k hk => (H.out.row k hk).1)); clear ho5 hg5 hn5)
    | (at_builtin; refine step_appendBR _ rfl (.tmp 7) (.tmp 8) rfl B v5 _ rfl (Ho5.out.alloc _) (some ⟨w5.heap.size, 0, none⟩) [0] 1 1 rfl rfl (BytesIn.new1 w5 0 0 _ rfl) (by rw [List.length_singleton]; omega) (by rw [World.size_alloc]; omega) ?_; intro v6 w6 ho6 hg6 hn6; have Ho6 := Lib.hid ho6; have HB6 : Hid (Below B w w6) := Lib.hid ((HB5.out.alloc (by omega) _).trans (Below.of_row hg6 (by rw [World.size_alloc]; omega) (fun k hk => (Ho5.out.row k hk).1))); clear ho6 hg6 hn6))
  go_ret
  exact ⟨_, rfl, Ho6.out, HB6.out⟩

set_option maxRecDepth 100000 in
set_option maxHeartbeats 4000000 in
theorem rlist_any (S : Nat → Prop) (p : Option Addr) (l : List UInt8) (cap : Nat) (q : Option Addr) (n c : Nat) (xs : List Int) (z : Int) (zn : Nat) (hz : (zn : Int) = z) (w : World) (hin : BytesIn w p l) (hx : SliceS 1 IntU S w [.slice q n c] xs) (hl : l.length ≤ 100000000) (hxl : xs.length ≤ 1000000) :
    Calls Try.prog 53 #[.slice p l.length cap, .slice q n c, .int .i64 z] w fun e w' => ∃ v', e = .returned v' ∧ OwnBR w.heap.size w' v' (listB l xs zn) ∧ Below w.heap.size w w' := by
  subst hz
  obtain ⟨rfl, hlc, hcm⟩ := hx.len
  unfold maxLen at hcm
  have Hx := Lib.hid hx
  have Hp := Lib.hid (putR_any p l cap (xs.length : Int) 2 w (by omega) hin)
  have Hall := Lib.hid (listP_all l xs zn)
  have Hlen := Lib.hid (fun k hk => listP_len l xs zn k hk)
  clear hx hin
  go_enter Try.func53, Try.ntmps53
  go_wp2_with fail
  refine Hp.out.mono ?_
  rintro e w1 ⟨v1, rfl, ho1, hb1⟩
  have Ho1 : Hid (OwnBR w.heap.size w1 v1 (listP l xs zn 0)) := Lib.hid (OwnBR.of ho1)
  have HB1 := Lib.hid hb1
  clear ho1 hb1 Hp
  go_wp2_with fail
  go_loopw [0, 7] (fun v i wr => ∃ k : Nat, k ≤ xs.length ∧ i = .int .i64 k ∧ OwnBR w.heap.size wr v (listP l xs zn k) ∧ Below w.heap.size w wr) (fun _ i _ => xs.length - (intOf i).toNat)
  case atStart => exact ⟨0, Nat.zero_le _, rfl, Ho1.out, HB1.out⟩
  case round =>
    obtain ⟨k, hk, rfl, ho, hb⟩ := hrel
    have hsz := hb.size
    have Hb := Lib.hid hb
    have Ho := Lib.hid ho
    by_cases hlt : k < xs.length
    · obtain ⟨b, o, rfl, hS, hbl, c0⟩ := int_at (Hx.out.below IntU.still hb) hlt
      have hlk := Hlen.out k hk
      have Hstep := Lib.hid (listP_succ (b := l) (size := zn) hlt)
      obtain ⟨p2, c2, hv2, k2, m2, q2, -⟩ := ho.slice
      subst hv2
      have Hp2 := Lib.hid (putR_any p2 (listP l xs zn k) c2 xs[k] (zn : Int) wr (by omega) q2)
      clear ho hb hS q2
      rw [← Hstep.out] at Hp2
      generalize xs[k] = x at *
      generalize (listP l xs zn k).length = nl at *
      have hlti : (k : Int) < (xs.length : Int) := by omega
      go_wp2_with fail
      refine Hp2.out.mono ?_
      rintro e w2 ⟨v3, rfl, ho3, hb3⟩
      have Ho3 : Hid (OwnBR w.heap.size w2 v3 (listP l xs zn (k + 1))) := Lib.hid (OwnR.base (OwnBR.of ho3) hsz)
      have HB3 := Lib.hid (Hb.out.trans (hb3.mono hsz))
      clear ho3 hb3 Hp2
      go_wp2_with fail
      go_roundw
      case rel => exact ⟨k + 1, by omega, by go_num, Ho3.out, HB3.out⟩
      case measure => simp [intOf]; omega
    · obtain rfl : k = xs.length := by omega
      rw [Hall.out] at ho
      have Hoe := Lib.hid ho
      clear ho hb Ho
      go_wp2_with fail
      go_ret
      exact ⟨_, rfl, Hoe.out, Hb.out⟩

set_option maxRecDepth 100000 in
set_option maxHeartbeats 4000000 in
theorem rrow_any (S : Nat → Prop) (p : Option Addr) (l : List UInt8) (cap : Nat) (q : Option Addr) (n c : Nat) (xs : List CeV) (w : World) (hin : BytesIn w p l) (hx : SliceS 2 CeS S w [.slice q n c] xs) (hl : l.length ≤ 1000000) (hxl : xs.length ≤ 10000) (hm : ∀ c ∈ xs, c.bytes.length ≤ 10000) :
    Calls Try.prog 55 #[.slice p l.length cap, .slice q n c] w fun e w' => ∃ v', e = .returned v' ∧ OwnBR w.heap.size w' v' (rowB l xs) ∧ Below w.heap.size w w' := by
  obtain ⟨rfl, hlc, hcm⟩ := hx.len
  unfold maxLen at hcm
  have Hx := Lib.hid hx
  have Hp := Lib.hid (putR_any p l cap (xs.length : Int) 2 w (by omega) hin)
  have Hall := Lib.hid (rowP_all l xs)
  have Hlen := Lib.hid (fun k hk => rowP_len l xs 10000 hm k hk)
  have Hm := Lib.hid hm
  clear hx hin hm
  go_enter Try.func55, Try.ntmps55
  go_wp2_with fail
  refine Hp.out.mono ?_
  rintro e w1 ⟨v1, rfl, ho1, hb1⟩
  have Ho1 : Hid (OwnBR w.heap.size w1 v1 (rowP l xs 0)) := Lib.hid (OwnBR.of ho1)
  have HB1 := Lib.hid hb1
  clear ho1 hb1 Hp
  go_wp2_with fail
  go_loopw [0, 5] (fun v i wr => ∃ k : Nat, k ≤ xs.length ∧ i = .int .i64 k ∧ OwnBR w.heap.size wr v (rowP l xs k) ∧ Below w.heap.size w wr) (fun _ i _ => xs.length - (intOf i).toNat)
  case atStart => exact ⟨0, Nat.zero_le _, rfl, Ho1.out, HB1.out⟩
  case round =>
    obtain ⟨k, hk, rfl, ho, hb⟩ := hrel
    have hsz := hb.size
    have Hb := Lib.hid hb
    have Ho := Lib.hid ho
    by_cases hlt : k < xs.length
    · obtain ⟨b, o, qx, dx, rfl, hS, hbl, c0, c1, hqx⟩ := ce_at (Hx.out.below CeS.still hb) hlt
      have hlk := Hlen.out k hk
      have hbk := Hm.out xs[k] (List.getElem_mem hlt)
      have Hstep := Lib.hid (rowP_succ (b := l) hlt)
      have Hcb : Hid (∀ b0, cellB b0 xs[k] = if xs[k].null then putV b0 4294967295 4 else putV b0 xs[k].bytes.length 4 ++ xs[k].bytes) := Lib.hid (fun _ => rfl)
      have Hqx := Lib.hid hqx.parts.2.2.2
      obtain ⟨p2, c2, hv2, k2, m2, q2, -⟩ := ho.slice
      subst hv2
      have Hq2 := Lib.hid q2
      have hl9 : (rowP l xs k).length ≤ 200000000 := by
        have : 10004 * k ≤ 10004 * 10000 := Nat.mul_le_mul (Nat.le_refl _) (by omega)
        omega
      clear ho hb hS hqx q2
      generalize xs[k] = x at *
      obtain ⟨xn, xb⟩ := x
      dsimp only at *
      have hlti : (k : Int) < (xs.length : Int) := by omega
      cases xn with
      | true =>
        have Hp2 := Lib.hid (putR_any p2 (rowP l xs k) c2 (-1) 4 wr (by omega) Hq2.out)
        rw [putV_null] at Hp2
        generalize (rowP l xs k).length = nl at *
        go_wp2_with fail
        refine Hp2.out.mono ?_
        rintro e w2 ⟨v3, rfl, ho3, hb3⟩
        have Ho3 : Hid (OwnBR w.heap.size w2 v3 (rowP l xs (k + 1))) := Lib.hid (by rw [Hstep.out, Hcb.out]; exact OwnR.base (OwnBR.of ho3) hsz)
        have HB3 := Lib.hid (Hb.out.trans (hb3.mono hsz))
        clear ho3 hb3 Hp2
        go_wp2_with fail
        go_roundw
        case rel => exact ⟨k + 1, by omega, by go_num, Ho3.out, HB3.out⟩
        case measure => simp [intOf]; omega
      | false =>
        have hpl4 := putV_len4 (rowP l xs k) (xb.length : Int) 4
        have Hp2 := Lib.hid (putR_any p2 (rowP l xs k) c2 (xb.length : Int) 4 (wr.drewN 1) (by omega) (Hq2.out.drewN 1))
        have Hqd := Lib.hid (Hqx.out.drewN 1)
        have Hnx : Hid (rowP l xs (k + 1) = putV (rowP l xs k) (xb.length : Int) 4 ++ xb) := Lib.hid (by rw [Hstep.out, Hcb.out]; rfl)
        generalize putV (rowP l xs k) (xb.length : Int) 4 = Q at *
        generalize (rowP l xs k).length = nl at *
        have hS0 : wr.cell? ⟨b, o + k * 2 + 1, none⟩ = some (.slice qx xb.length dx) := c1
        go_upto_region 7 with fail
        go_region_held3 (fun w' => w'.cell? ⟨b, o + k * 2 + 1, none⟩ = some (.slice qx xb.length dx))
          (first | exact hS0 | exact hS3 | exact hS4 | go_keep)
          (first
            | (go_at_call 42; refine Hp2.out.mono ?_; rintro e w3 ⟨v3, rfl, ho3, hb3⟩; have Ho3 : Hid (OwnBR wr.heap.size w3 v3 Q) := Lib.hid (OwnBR.of ho3); have hb3' : Below wr.heap.size wr w3 := (bel_drewN1 wr).trans hb3; have HB3 := Lib.hid hb3'; have Hq3 := Lib.hid (Hqx.out.below hb3'); have hS3 : w3.cell? ⟨b, o + k * 2 + 1, none⟩ = some (.slice qx xb.length dx) := (hb3'.cell (p := ⟨b, o + k * 2 + 1, none⟩) hbl).trans hS0; have hz3 : wr.heap.size ≤ w3.heap.size := hb3'.size; clear ho3 hb3 hb3')
            | (refine rgn_appendBR rfl (.tmp 30) (.tmp 35) rfl wr.heap.size _ _ rfl Ho3.out _ xb _ _ rfl rfl Hq3.out (by omega) hz3 ?_; intro v4 w4 ho4 hg4 _; have Ho4 := Lib.hid ho4; have hb4 : Below wr.heap.size wr w4 := HB3.out.trans (Below.of_row hg4 hz3 (fun k hk => (Ho3.out.row k hk).1)); have HB4 := Lib.hid hb4; have hS4 : w4.cell? ⟨b, o + k * 2 + 1, none⟩ = some (.slice qx xb.length dx) := (hb4.cell (p := ⟨b, o + k * 2 + 1, none⟩) hbl).trans hS0; clear ho4 hg4 hb4))
        clear hS0 hS3 hS4
        have Ho5 : Hid (OwnBR w.heap.size w4 v4 (rowP l xs (k + 1))) := Lib.hid (by rw [Hnx.out]; exact OwnR.base Ho4.out hsz)
        have HB5 := Lib.hid (Hb.out.trans (HB4.out.mono hsz))
        go_wp2_with fail
        go_roundw
        case rel => exact ⟨k + 1, by omega, by go_num, Ho5.out, HB5.out⟩
        case measure => simp [intOf]; omega
    · obtain rfl : k = xs.length := by omega
      rw [Hall.out] at ho
      have Hoe := Lib.hid ho
      clear ho hb Ho
      go_wp2_with fail
      go_ret
      exact ⟨_, rfl, Hoe.out, Hb.out⟩

end Go.Proofs.Ytldjfmddjbdciaa
