/-
  Ground: BaN, FoD, FoE, FoF, Arr3.
-/
import Derived.Test.YthhebfknikfleaaGreatPbDP2
import Derived.Test.YthhebfknikfleaaGreatPbDP6
import Derived.Test.YthhebfknikfleaaGreatPbDP1
/-
  Messages of servers (layer 7): the document's columns' and fields' bytes.
-/
namespace Go.Proofs.YthhebfknikfleaaGreat
open Go.RowKit
set_option linter.unusedVariables false
set_option linter.unusedSimpArgs false

theorem rstr2_any (B : Nat) (v : Value) (l : List UInt8) (s : ByteArray) (w : World) (h : OwnBR B w v l) (hB : B ≤ w.heap.size) (hl : l.length ≤ 100000000) (hs : s.size ≤ 10000000) :
    Calls Tryz.prog 47 #[v, .string s] w fun e w' => ∃ p c, e = .returned (.slice p (strB l s).length c) ∧ OwnBR B w' (.slice p (strB l s).length c) (strB l s) ∧ BytesIn w' p (strB l s) ∧ Touch (fun k => rowOf v = some k) w w' := by
  have H := Lib.hid h
  have hsd : s.data.toList.length ≤ 10000000 := by rw [← size_data]; exact hs
  have hr2 : (l ++ s.data.toList).length + 1 ≤ 300000000 := by rw [List.length_append]; omega
  have Hst : Hid (strB l s = (l ++ s.data.toList) ++ [0]) := Lib.hid rfl
  clear h hs
  go_enter Tryz.func47, Tryz.ntmps47
  go_wp2_with (first
    | (at_builtin; refine step_appendStr _ rfl (.tmp 5) (.tmp 6) rfl B v l rfl H.out s rfl (by omega) hB ?_; intro v5 w5 ho5 hg5 hn5; have Ho5 := Lib.hid ho5; have hz5 := hg5.size; have HT5 : Hid (Touch (fun k => rowOf v = some k) w w5) := Lib.hid ((Touch.of_row hg5).mono (fun k _ e => e.symm)); have Hn5 := Lib.hid hn5; clear ho5 hg5 hn5)
    | (at_builtin; refine step_appendBR _ rfl (.tmp 7) (.tmp 8) rfl B v5 _ rfl (Ho5.out.alloc _) (some ⟨w5.heap.size, 0, none⟩) [0] 1 1 rfl rfl (BytesIn.new1 w5 0 0 _ rfl) (by rw [List.length_singleton]; omega) (by rw [World.size_alloc]; omega) ?_; intro v6 w6 ho6 hg6 hn6; have Ho6 := Lib.hid ho6; have HT6 : Hid (Touch (fun k => rowOf v = some k) w w6) := Lib.hid ((HT5.out.alloc _).then (Touch.of_row hg6) (fun i hi e => by rcases Hn5.out i e.symm with h | h; exact h; omega)); clear ho6 hg6 hn6))
  rw [← Hst.out] at Ho6
  obtain ⟨p6, c6, hv6, -, -, q6, -⟩ := Ho6.out.slice
  have Hq6 := Lib.hid q6
  subst hv6
  clear q6
  go_ret
  exact ⟨_, _, rfl, Ho6.out, Hq6.out, HT6.out⟩
theorem putR2_any (p : Option Addr) (l : List UInt8) (cap : Nat) (n size : Int) (w : World) (hl : l.length ≤ 1000000000) (hb : BytesIn w p l) :
    Calls Tryz.prog 46 #[.slice p l.length cap, .int .i64 n, .int .i64 size] w fun e w' =>
      ∃ p c, e = .returned (.slice p (putV l n size).length c) ∧ OwnBR w.heap.size w' (.slice p (putV l n size).length c) (putV l n size) ∧ BytesIn w' p (putV l n size) ∧ Below w.heap.size w w' :=
  (putR_any p l cap n size w hl hb).mono fun e w' ⟨v, he, ho, hB⟩ => by
    have h := OwnBR.of ho
    obtain ⟨p, c, hv, -, -, q, -⟩ := h.slice
    subst hv
    exact ⟨p, c, he, h, q, hB⟩

/-- Bytes with the first columns of a list behind them. -/
def colP (b : List UInt8) (l : List CoV) (k : Nat) : List UInt8 := (l.take k).foldl colW (putV b l.length 2)
theorem colP_succ {b : List UInt8} {l : List CoV} {k : Nat} (hk : k < l.length) : colP b l (k + 1) = colW (colP b l k) l[k] := by
  unfold colP
  rw [List.take_succ_eq_append_getElem hk, List.foldl_append]
  rfl
theorem colP_all (b : List UInt8) (l : List CoV) : colP b l l.length = l.foldl colW (putV b l.length 2) := by
  unfold colP
  rw [List.take_length]
theorem colP_len (b : List UInt8) (l : List CoV) (m : Nat) (hm : ∀ c ∈ l, c.name.size ≤ m) : ∀ k, k ≤ l.length → (colP b l k).length ≤ b.length + 4 + (m + 25) * k
  | 0, _ => by
    have := putV_len4 b l.length 2
    simp [colP]
    omega
  | k + 1, hk => by
    have ih := colP_len b l m hm k (by omega)
    rw [colP_succ (by omega)]
    have h1 := colW_len (colP b l k) l[k]
    have := hm l[k] (List.getElem_mem _)
    rw [Nat.mul_add]
    omega

set_option maxRecDepth 100000 in
set_option maxHeartbeats 4000000 in
theorem described_any (S : Nat → Prop) (p : Option Addr) (n c : Nat) (xs : List CoV) (w : World) (hx : SliceS 7 CoS S w [.slice p n c] xs) (hxl : xs.length ≤ 1000) (hm : ∀ c ∈ xs, c.name.size ≤ 10000) :
    Calls Tryz.prog 49 #[.slice p n c] w fun e w' => ∃ v', e = .returned v' ∧ OwnBR w.heap.size w' v' (xs.foldl colW (putV [] xs.length 2)) ∧ Below w.heap.size w w' := by
  obtain ⟨rfl, hlc, hcm⟩ := hx.len
  unfold maxLen at hcm
  have Hx := Lib.hid hx
  have Hp := Lib.hid (putR2_any none [] 0 (xs.length : Int) 2 w (by simp) (BytesIn.nil w none))
  have Hall := Lib.hid (colP_all [] xs)
  have Hlen := Lib.hid (fun k hk => colP_len [] xs 10000 hm k hk)
  have Hm := Lib.hid hm
  clear hx hm
  go_enter Tryz.func49, Tryz.ntmps49
  go_wp2_with fail
  refine Hp.out.mono ?_
  rintro e w1 ⟨p1, c1, rfl, ho1, -, hb1⟩
  have Ho1 : Hid (OwnBR w.heap.size w1 (.slice p1 (putV [] (xs.length : Int) 2).length c1) (colP [] xs 0)) := Lib.hid ho1
  have HB1 := Lib.hid hb1
  clear ho1 hb1 Hp
  go_wp2_with fail
  go_loopw [3, 4, 5] (fun v i _ wr => ∃ k : Nat, k ≤ xs.length ∧ i = .int .i64 k ∧ OwnBR w.heap.size wr v (colP [] xs k) ∧ Below w.heap.size w wr) (fun _ i _ _ => xs.length - (intOf i).toNat)
  case atStart => exact ⟨0, Nat.zero_le _, rfl, Ho1.out, HB1.out⟩
  case round =>
    obtain ⟨k, hk, rfl, ho, hb⟩ := hrel
    have hsz := hb.size
    have Hb := Lib.hid hb
    have Ho := Lib.hid ho
    by_cases hlt : k < xs.length
    · obtain ⟨b, o, rfl, hS, hbl, c0, c1, c2, c3, c4, c5, c6, hq⟩ := co_at (Hx.out.below CoS.still hb) hlt
      have hlk := Hlen.out k hk
      have hl9 : (colP [] xs k).length ≤ 20000000 := by
        have : 10025 * k ≤ 10025 * 1000 := Nat.mul_le_mul (Nat.le_refl _) (by omega)
        simp only [List.length_nil] at hlk
        omega
      have hbk := Hm.out xs[k] (List.getElem_mem hlt)
      have Hstep := Lib.hid (colP_succ (b := []) hlt)
      have Hcw : Hid (∀ b0, colW b0 xs[k] = putV (putV (putV (putV (putV (putV (strB b0 xs[k].name) xs[k].table 4) xs[k].attr 2) xs[k].oid 4) xs[k].size 2) xs[k].mod 4) xs[k].format 2) := Lib.hid (fun _ => rfl)
      clear ho hb hS hq hlk
      generalize xs[k] = x at *
      obtain ⟨xn, xt, xa, xo, xz, xm, xf⟩ := x
      dsimp only at *
      have Hnx := Lib.hid (Hstep.out.trans (Hcw.out _))
      clear Hstep Hcw
      obtain ⟨L0, hL0⟩ : ∃ L, colP [] xs k = L := ⟨_, rfl⟩
      rw [hL0] at Hnx Ho hl9
      clear hL0
      have k0 := strB_len L0 xn
      have k1 := putV_len4 (strB L0 xn) xt 4
      have k2 := putV_len4 (putV (strB L0 xn) xt 4) xa 2
      have k3 := putV_len4 (putV (putV (strB L0 xn) xt 4) xa 2) xo 4
      have k4 := putV_len4 (putV (putV (putV (strB L0 xn) xt 4) xa 2) xo 4) xz 2
      have k5 := putV_len4 (putV (putV (putV (putV (strB L0 xn) xt 4) xa 2) xo 4) xz 2) xm 4
      have K := Lib.hid (And.intro k0 (And.intro k1 (And.intro k2 (And.intro k3 (And.intro k4 k5)))))
      clear k0 k1 k2 k3 k4 k5
      have hlti : (k : Int) < (xs.length : Int) := by omega
      have hal : Below wr.heap.size wr (wr.alloc (.cells #[.string xn, .int .i64 xt, .int .i64 xa, .int .i64 xo, .int .i64 xz, .int .i64 xm, .int .i64 xf] 79)) := (Below.refl _ _).alloc (Nat.le_refl _) _
      have HBa := Lib.hid (Hb.out.trans (hal.mono hsz))
      have Hoa := Lib.hid (Ho.out.below hal)
      have Hka := Lib.hid (Blk.new wr 79 #[.string xn, .int .i64 xt, .int .i64 xa, .int .i64 xo, .int .i64 xz, .int .i64 xm, .int .i64 xf])
      have Hrw := Lib.hid (fun k' (e : rowOf u3 = some k') => (Ho.out.row k' e).2)
      clear hal
      go_upto_region 6 with fail
      clear c0 c1 c2 c3 c4 c5 c6 Ho hbl
      generalize wr.alloc (.cells #[.string xn, .int .i64 xt, .int .i64 xa, .int .i64 xo, .int .i64 xz, .int .i64 xm, .int .i64 xf] 79) = wa at *
      generalize hgx : wr.heap.size = gx at *
      have hza : w.heap.size ≤ wa.heap.size := HBa.out.size
      have hcx := Hka.out.cell
      go_region_held3 (fun w' => ∀ i, w'.cell? ⟨gx, i, none⟩ = (#[.string xn, .int .i64 xt, .int .i64 xa, .int .i64 xo, .int .i64 xz, .int .i64 xm, .int .i64 xf] : Array Value)[i]?)
        (first | exact hcx | exact Hk5.out.cell | exact Hk6.out.cell | exact Hk7.out.cell | go_keep)
        (first | (go_at_call 46; refine (putR2_any p6 _ c6 xa 2 _ (by have := K.out; omega) Hq6.out).mono ?_; rintro e w7 ⟨p7, c7, rfl, ho, hq, hb⟩; have hb' : Below w6.heap.size w6 w7 := hb; have Ho7 : Hid (OwnBR w6.heap.size w7 _ _) := Lib.hid ho; have Hq7 := Lib.hid hq; have Hk7 := Lib.hid (Hk6.out.below hb' Hk6.out.lt); have HB7 := Lib.hid (HB6.out.trans (hb'.mono HB6.out.size)); clear ho hq hb hb') | (go_at_call 46; refine (putR2_any p5 _ c5 xt 4 _ (by have := K.out; omega) Hq5.out).mono ?_; rintro e w6 ⟨p6, c6, rfl, ho, hq, hb⟩; have hb' : Below w5.heap.size w5 w6 := hb; have Ho6 : Hid (OwnBR w5.heap.size w6 _ _) := Lib.hid ho; have Hq6 := Lib.hid hq; have Hk6 := Lib.hid (Hk5.out.below hb' Hk5.out.lt); have HB6 := Lib.hid (HB5.out.trans (hb'.mono HB5.out.size)); clear ho hq hb hb') | (go_at_call 47; refine (rstr2_any w.heap.size _ L0 xn wa.drew (Hoa.out.below (bel_drew wa)) hza (by omega) (by omega)).mono ?_; rintro e w5 ⟨p5, c5, rfl, ho, hq, hT⟩; have Hq5 := Lib.hid hq; have hT' := ((Touch.refl (fun k => rowOf u3 = some k) wa).drew).trans hT; have Hk5 := Lib.hid (hT'.blk Hka.out (fun e => by have := Hrw.out _ e; omega)); have HB5 := Lib.hid (HBa.out.trans (hT'.below hza (fun k e => (Hoa.out.row k e).1))); clear ho hq hT hT'))
      clear hcx
      go_upto_region 7 with fail
      have hcx := Hk7.out.cell
      go_region_held3 (fun w' => ∀ i, w'.cell? ⟨gx, i, none⟩ = (#[.string xn, .int .i64 xt, .int .i64 xa, .int .i64 xo, .int .i64 xz, .int .i64 xm, .int .i64 xf] : Array Value)[i]?)
        (first | exact hcx | exact Hk8.out.cell | exact Hk9.out.cell | go_keep)
        (first | (go_at_call 46; refine (putR2_any p8 _ c8 xz 2 _ (by have := K.out; omega) Hq8.out).mono ?_; rintro e w9 ⟨p9, c9, rfl, ho, hq, hb⟩; have hb' : Below w8.heap.size w8 w9 := hb; have Ho9 : Hid (OwnBR w8.heap.size w9 _ _) := Lib.hid ho; have Hq9 := Lib.hid hq; have Hk9 := Lib.hid (Hk8.out.below hb' Hk8.out.lt); have HB9 := Lib.hid (HB8.out.trans (hb'.mono HB8.out.size)); clear ho hq hb hb') | (go_at_call 46; refine (putR2_any p7 _ c7 xo 4 _ (by have := K.out; omega) (Hq7.out.below (bel_drew _))).mono ?_; rintro e w8 ⟨p8, c8, rfl, ho, hq, hb⟩; have hb' : Below w7.heap.size w7 w8 := ((bel_drew w7).trans hb); have Ho8 : Hid (OwnBR w7.heap.size w8 _ _) := Lib.hid ho; have Hq8 := Lib.hid hq; have Hk8 := Lib.hid (Hk7.out.below hb' Hk7.out.lt); have HB8 := Lib.hid (HB7.out.trans (hb'.mono HB7.out.size)); clear ho hq hb hb'))
      clear hcx
      go_upto_region 8 with fail
      have hcx := Hk9.out.cell
      go_region_held3 (fun w' => ∀ i, w'.cell? ⟨gx, i, none⟩ = (#[.string xn, .int .i64 xt, .int .i64 xa, .int .i64 xo, .int .i64 xz, .int .i64 xm, .int .i64 xf] : Array Value)[i]?)
        (first | exact hcx | exact Hk10.out.cell | exact Hk11.out.cell | go_keep)
        (first | (go_at_call 46; refine (putR2_any p10 _ c10 xf 2 _ (by have := K.out; omega) Hq10.out).mono ?_; rintro e w11 ⟨p11, c11, rfl, ho, hq, hb⟩; have hb' : Below w10.heap.size w10 w11 := hb; have Ho11 : Hid (OwnBR w10.heap.size w11 _ _) := Lib.hid ho; have Hq11 := Lib.hid hq; have Hk11 := Lib.hid (Hk10.out.below hb' Hk10.out.lt); have HB11 := Lib.hid (HB10.out.trans (hb'.mono HB10.out.size)); clear ho hq hb hb') | (go_at_call 46; refine (putR2_any p9 _ c9 xm 4 _ (by have := K.out; omega) (Hq9.out.below (bel_drew _))).mono ?_; rintro e w10 ⟨p10, c10, rfl, ho, hq, hb⟩; have hb' : Below w9.heap.size w9 w10 := ((bel_drew w9).trans hb); have Ho10 : Hid (OwnBR w9.heap.size w10 _ _) := Lib.hid ho; have Hq10 := Lib.hid hq; have Hk10 := Lib.hid (Hk9.out.below hb' Hk9.out.lt); have HB10 := Lib.hid (HB9.out.trans (hb'.mono HB9.out.size)); clear ho hq hb hb'))
      clear hcx
      have Hox : Hid (OwnBR w.heap.size w11 (.slice p11 (putV (putV (putV (putV (putV (putV (strB L0 xn) xt 4) xa 2) xo 4) xz 2) xm 4) xf 2).length c11) (colP [] xs (k + 1))) := Lib.hid (by rw [Hnx.out]; exact OwnR.base Ho11.out HB10.out.size)
      generalize (putV (putV (putV (putV (putV (putV (strB L0 xn) xt 4) xa 2) xo 4) xz 2) xm 4) xf 2).length = n11 at *
      go_wp2_with fail
      go_roundw
      case rel => exact ⟨k + 1, by omega, by go_num, Hox.out, HB11.out⟩
      case measure => simp [intOf]; omega
    · obtain rfl : k = xs.length := by omega
      rw [Hall.out] at ho
      have Hoe := Lib.hid ho
      clear ho hb Ho
      go_wp2_with fail
      go_ret
      exact ⟨_, rfl, Hoe.out, Hb.out⟩

set_option maxRecDepth 100000 in
set_option maxHeartbeats 4000000 in
theorem told_any (S : Nat → Prop) (p : Option Addr) (n c : Nat) (xs : List FdV) (w : World) (hx : SliceS 2 FdS S w [.slice p n c] xs) (hxl : xs.length ≤ 1000) (hm : ∀ c ∈ xs, c.text.size ≤ 10000) :
    Calls Tryz.prog 51 #[.slice p n c] w fun e w' => ∃ v', e = .returned v' ∧ OwnBR w.heap.size w' v' (xs.foldl fieldW [] ++ [0]) ∧ Below w.heap.size w w' := by
  obtain ⟨rfl, hlc, hcm⟩ := hx.len
  unfold maxLen at hcm
  have Hx := Lib.hid hx
  have Hall := Lib.hid (fldP_all [] xs)
  have Hlen := Lib.hid (fun k hk => fldP_len [] xs 10000 hm k hk)
  have Hm := Lib.hid hm
  clear hx hm
  go_enter Tryz.func51, Tryz.ntmps51
  go_wp2_with fail
  go_loopw [3, 4] (fun v i wr => ∃ k : Nat, k ≤ xs.length ∧ i = .int .i64 k ∧ OwnBR w.heap.size wr v (fldP [] xs k) ∧ Below w.heap.size w wr) (fun _ i _ => xs.length - (intOf i).toNat)
  case atStart => exact ⟨0, Nat.zero_le _, rfl, OwnBR.empty _ _ _, Below.refl _ _⟩
  case round =>
    obtain ⟨k, hk, rfl, ho, hb⟩ := hrel
    have hsz := hb.size
    have Hb := Lib.hid hb
    have Ho := Lib.hid ho
    have hlk := Hlen.out k hk
    have hl9 : (fldP [] xs k).length ≤ 20000000 := by
      have : 10002 * k ≤ 10002 * 1000 := Nat.mul_le_mul (Nat.le_refl _) (by omega)
      simp only [List.length_nil] at hlk
      omega
    clear hlk
    by_cases hlt : k < xs.length
    · obtain ⟨b, o, rfl, hS, hbl, c0, c1, hq, hq0, hq1⟩ := fd_at Hx.out hlt
      have hbk := Hm.out xs[k] (List.getElem_mem hlt)
      have Hstep := Lib.hid (fldP_succ (b := []) hlt)
      have Hby := Lib.hid (byte_back hq0 hq1)
      have Hc0 := Lib.hid (fun (w' : World) (h : Below w.heap.size w w') => And.intro ((h.cell (p := ⟨b, o + k * 2, none⟩) hbl).trans c0) ((h.cell (p := ⟨b, o + k * 2 + 1, none⟩) hbl).trans c1))
      clear ho hb hS hq c0 c1
      generalize xs[k] = x at *
      obtain ⟨xc, xt⟩ := x
      dsimp only at *
      have hlti : (k : Int) < (xs.length : Int) := by omega
      obtain ⟨hc0, hc1⟩ := Hc0.out wr Hb.out
      generalize hQ : fldP [] xs k = Q at *
      clear hQ
      go_upto_region 5 with fail
      go_region_held3 (fun w' => (w'.cell? ⟨b, o + k * 2, none⟩ = some (.int .u8 xc)) ∧ (w'.cell? ⟨b, o + k * 2 + 1, none⟩ = some (.string xt)))
        (first | exact ⟨hc0, hc1⟩ | exact Hc0.out _ HB5.out | exact Hc0.out _ HB6.out | exact Hc0.out _ (Hb.out.trans (((Below.refl _ wr).alloc (Nat.le_refl _) _).mono hsz)) | exact Hc0.out _ (Hb.out.trans (((bel_drew wr).alloc (Nat.le_refl _) _).mono hsz)) | go_keep)
        (first
          | (refine rgn_appendBR rfl (.tmp 11) (.tmp 17) rfl w.heap.size _ Q rfl ((Ho.out.alloc _).below (bel_drew _)) _ [UInt8.ofNat xc.toNat] _ _ rfl rfl ((BytesIn.new1 wr _ xc _ Hby.out).below (bel_drew _)) (by rw [List.length_singleton]; omega) (show w.heap.size ≤ (wr.alloc _).heap.size by rw [World.size_alloc]; exact Nat.le_succ_of_le hsz) ?_; intro v5 w5 ho5 hg5 hn5; have Ho5 := Lib.hid ho5; have HB5 : Hid (Below w.heap.size w w5) := Lib.hid ((Hb.out.trans ((((Below.refl _ wr).alloc (Nat.le_refl _) _).mono hsz))).trans (Below.of_row hg5 (show w.heap.size ≤ (wr.alloc _).heap.size by rw [World.size_alloc]; exact Nat.le_succ_of_le hsz) (fun k hk => (Ho.out.row k hk).1))); clear ho5 hg5 hn5)
          | (refine rgn_appendBR rfl (.tmp 11) (.tmp 17) rfl w.heap.size _ Q rfl ((Ho.out.below (bel_drew _)).alloc _) _ [UInt8.ofNat xc.toNat] _ _ rfl rfl (BytesIn.new1 wr.drew _ xc _ Hby.out) (by rw [List.length_singleton]; omega) (show w.heap.size ≤ (wr.drew.alloc _).heap.size by rw [World.size_alloc]; exact Nat.le_succ_of_le hsz) ?_; intro v5 w5 ho5 hg5 hn5; have Ho5 := Lib.hid ho5; have HB5 : Hid (Below w.heap.size w w5) := Lib.hid ((Hb.out.trans ((((bel_drew wr).alloc (Nat.le_refl _) _).mono hsz))).trans (Below.of_row hg5 (show w.heap.size ≤ (wr.drew.alloc _).heap.size by rw [World.size_alloc]; exact Nat.le_succ_of_le hsz) (fun k hk => (Ho.out.row k hk).1))); clear ho5 hg5 hn5)
          | (go_at_call 47; refine (rstr2_any w.heap.size _ _ xt _ Ho5.out HB5.out.size (by rw [List.length_append, List.length_singleton]; omega) (by omega)).mono ?_; rintro e w6 ⟨p6, c6, rfl, ho, hq, hT⟩; have Ho6 := Lib.hid ho; have HB6 := Lib.hid (HB5.out.trans (hT.below HB5.out.size (fun k e => (Ho5.out.row k e).1))); clear ho hq hT))
      all_goals
        clear hc0 hc1
        generalize (strB (Q ++ [UInt8.ofNat xc.toNat]) xt).length = n6 at *
        rw [← Hstep.out] at Ho6
        go_wp2_with fail
        go_roundw
        case rel => exact ⟨k + 1, by omega, by go_num, Ho6.out, HB6.out⟩
        case measure => simp [intOf]; omega
    · obtain rfl : k = xs.length := by omega
      rw [Hall.out] at ho hl9
      have Hoe := Lib.hid ho
      clear ho hb Ho
      go_wp2_with (at_builtin; refine step_appendBR _ rfl (.tmp 25) (.tmp 26) rfl w.heap.size _ _ rfl (Hoe.out.alloc _) (some ⟨wr.heap.size, 0, none⟩) [0] 1 1 rfl rfl (BytesIn.new1 wr 0 0 _ rfl) (by rw [List.length_singleton]; omega) (by rw [World.size_alloc]; omega) ?_; intro v6 w6 ho6 hg6 hn6; have Ho6 := Lib.hid ho6; have HB6 : Hid (Below w.heap.size w w6) := Lib.hid ((Hb.out.trans ((((Below.refl _ wr).alloc (Nat.le_refl _) _).mono hsz))).trans (Below.of_row hg6 (by rw [World.size_alloc]; omega) (fun k hk => (Hoe.out.row k hk).1))); clear ho6 hg6 hn6)
      go_ret
      exact ⟨_, rfl, Ho6.out, HB6.out⟩

end Go.Proofs.YthhebfknikfleaaGreat

/-
  Messages of clients (layer 6): lists of numbers compared.
-/
namespace Go.Proofs.YthhebfknikfleaaGreat
open Go.RowKit
set_option linter.unusedVariables false
set_option linter.unusedSimpArgs false

theorem bel_drawN (w : World) (r : Nat) : Below w.heap.size w (w.drewN r) := ((Touch.refl (fun _ => False) w).drewN r).below (Nat.le_refl _) (fun _ e => e.elim)

set_option maxRecDepth 100000 in
set_option maxHeartbeats 4000000 in
theorem eqInts_any (S S' : Nat → Prop) (p q : Option Addr) (n m c d : Nat) (xs ys : List Int) (w : World) (hx : SliceS 1 IntU S w [.slice p n c] xs) (hy : SliceS 1 IntU S' w [.slice q m d] ys) :
    Calls Tryz.prog 72 #[.slice p n c, .slice q m d] w fun e w' => e = .returned (.bool (listEq intsEq xs ys)) ∧ Below w.heap.size w w' := by
  have Hx := Lib.hid hx
  have Hy := Lib.hid hy
  obtain ⟨rfl, hlc, hcm⟩ := hx.len
  obtain ⟨rfl, hld, hdm⟩ := hy.len
  unfold maxLen at hcm hdm
  clear hx hy
  by_cases hnm : xs.length = ys.length
  · have Hnm := Lib.hid hnm
    rw [← hnm] at hld ⊢
    clear hnm
    go_enter Tryz.func72, Tryz.ntmps72
    go_wp2_with fail
    go_loopw [5, 13] (fun _ i wr => ∃ k r : Nat, k ≤ xs.length ∧ i = .int .i64 k ∧ wr = w.drewN r ∧ listEq intsEq xs ys = listEq intsEq (xs.drop k) (ys.drop k)) (fun _ i _ => xs.length - (intOf i).toNat)
    case atStart => exact ⟨0, 0, Nat.zero_le _, rfl, rfl, rfl⟩
    case round =>
      obtain ⟨k, r, hk, rfl, rfl, he⟩ := hrel
      have He := Lib.hid he
      clear he
      by_cases hlt : k < xs.length
      · have hlt' : k < ys.length := by rw [← Hnm.out]; exact hlt
        obtain ⟨b, o, rfl, _, hbl, c0⟩ := int_at Hx.out hlt
        obtain ⟨b', o', rfl, _, hbl', e0⟩ := int_at Hy.out hlt'
        have c0 : (w.drewN r).cell? _ = _ := c0
        have e0 : (w.drewN r).cell? _ = _ := e0
        have Hst := Lib.hid (listEq_step (f := intsEq) hlt hlt')
        clear hbl hbl'
        generalize hX : xs[k] = x at *
        generalize hY : ys[k] = y at *
        clear hX hY hlt'
        obtain ⟨wq, hwq⟩ : ∃ wq, wq = w.drewN r := ⟨_, rfl⟩
        rw [← hwq] at c0 e0 ⊢
        have Hwq := Lib.hid hwq
        clear hwq
        have hlti : (k : Int) < (xs.length : Int) := by omega
        cases hxy : intsEq x y with
        | true =>
          rw [hxy, Bool.true_and] at Hst
          obtain rfl : x = y := by simpa [intsEq] using hxy
          clear hxy
          go_wp2_with fail
          go_region
          all_goals
            go_wp2_with fail
            go_roundw
            case rel => exact ⟨k + 1, r + 1, by omega, by go_num, by rw [Hwq.out]; rfl, He.out.trans Hst.out⟩
            case measure => simp [intOf]; omega
        | false =>
          rw [hxy, Bool.false_and] at Hst
          have hne : ¬ x = y := by simpa [intsEq] using hxy
          clear hxy
          have Hfin := Lib.hid (He.out.trans Hst.out)
          go_wp2_with fail
          go_region
          all_goals
            go_wp2_with fail
            go_ret
            refine ⟨ret_bool Hfin.out.symm, ?_⟩
            rw [Hwq.out]
            exact bel_drawN w (r + 1)
      · obtain rfl : k = xs.length := by omega
        have Hfin := Lib.hid (He.out.trans (listEq_end Hnm.out))
        go_wp2
        go_ret
        exact ⟨ret_bool Hfin.out.symm, bel_drawN w r⟩
  · have Hfin := Lib.hid (listEq_len (f := intsEq) hnm)
    have hnmi : ¬ (xs.length : Int) = (ys.length : Int) := by omega
    go_enter Tryz.func72, Tryz.ntmps72
    go_wp2
    go_ret
    exact ⟨ret_bool Hfin.out.symm, Below.refl _ _⟩

set_option maxRecDepth 100000 in
set_option maxHeartbeats 4000000 in
theorem reqInts_any (S S' : Nat → Prop) (p q : Option Addr) (n m c d : Nat) (xs ys : List Int) (w : World) (hx : SliceS 1 IntU S w [.slice p n c] xs) (hy : SliceS 1 IntU S' w [.slice q m d] ys) :
    Calls Tryz.prog 77 #[.slice p n c, .slice q m d] w fun e w' => e = .returned (.bool (listEq intsEq xs ys)) ∧ Below w.heap.size w w' := by
  have Hx := Lib.hid hx
  have Hy := Lib.hid hy
  obtain ⟨rfl, hlc, hcm⟩ := hx.len
  obtain ⟨rfl, hld, hdm⟩ := hy.len
  unfold maxLen at hcm hdm
  clear hx hy
  by_cases hnm : xs.length = ys.length
  · have Hnm := Lib.hid hnm
    rw [← hnm] at hld ⊢
    clear hnm
    go_enter Tryz.func77, Tryz.ntmps77
    go_wp2_with fail
    go_loopw [5] (fun i wr => ∃ k r : Nat, k ≤ xs.length ∧ i = .int .i64 k ∧ wr = w.drewN r ∧ listEq intsEq xs ys = listEq intsEq (xs.drop k) (ys.drop k)) (fun i _ => xs.length - (intOf i).toNat)
    case atStart => exact ⟨0, 0, Nat.zero_le _, rfl, rfl, rfl⟩
    case round =>
      obtain ⟨k, r, hk, rfl, rfl, he⟩ := hrel
      have He := Lib.hid he
      clear he
      by_cases hlt : k < xs.length
      · have hlt' : k < ys.length := by rw [← Hnm.out]; exact hlt
        obtain ⟨b, o, rfl, _, hbl, c0⟩ := int_at Hx.out hlt
        obtain ⟨b', o', rfl, _, hbl', e0⟩ := int_at Hy.out hlt'
        have c0 : (w.drewN r).cell? _ = _ := c0
        have e0 : (w.drewN r).cell? _ = _ := e0
        have Hst := Lib.hid (listEq_step (f := intsEq) hlt hlt')
        clear hbl hbl'
        generalize hX : xs[k] = x at *
        generalize hY : ys[k] = y at *
        clear hX hY hlt'
        obtain ⟨wq, hwq⟩ : ∃ wq, wq = w.drewN r := ⟨_, rfl⟩
        rw [← hwq] at c0 e0 ⊢
        have Hwq := Lib.hid hwq
        clear hwq
        have hlti : (k : Int) < (xs.length : Int) := by omega
        cases hxy : intsEq x y with
        | true =>
          rw [hxy, Bool.true_and] at Hst
          obtain rfl : x = y := by simpa [intsEq] using hxy
          clear hxy
          go_wp2_with fail
          go_region
          all_goals
            go_wp2_with fail
            go_roundw
            case rel => exact ⟨k + 1, r + 1, by omega, by go_num, by rw [Hwq.out]; rfl, He.out.trans Hst.out⟩
            case measure => simp [intOf]; omega
        | false =>
          rw [hxy, Bool.false_and] at Hst
          have hne : ¬ x = y := by simpa [intsEq] using hxy
          clear hxy
          have Hfin := Lib.hid (He.out.trans Hst.out)
          go_wp2_with fail
          go_region
          all_goals
            go_wp2_with fail
            go_ret
            refine ⟨ret_bool Hfin.out.symm, ?_⟩
            rw [Hwq.out]
            exact bel_drawN w (r + 1)
      · obtain rfl : k = xs.length := by omega
        have Hfin := Lib.hid (He.out.trans (listEq_end Hnm.out))
        go_wp2
        go_ret
        exact ⟨ret_bool Hfin.out.symm, bel_drawN w r⟩
  · have Hfin := Lib.hid (listEq_len (f := intsEq) hnm)
    have hnmi : ¬ (xs.length : Int) = (ys.length : Int) := by omega
    go_enter Tryz.func77, Tryz.ntmps77
    go_wp2
    go_ret
    exact ⟨ret_bool Hfin.out.symm, Below.refl _ _⟩

end Go.Proofs.YthhebfknikfleaaGreat

/-
  Messages of clients (layer 6): values compared.
-/
namespace Go.Proofs.YthhebfknikfleaaGreat
open Go.RowKit
set_option linter.unusedVariables false
set_option linter.unusedSimpArgs false

set_option maxRecDepth 100000 in
set_option maxHeartbeats 4000000 in
theorem reqCells_any (S S' : Nat → Prop) (p q : Option Addr) (n m c d : Nat) (xs ys : List CeV) (w : World) (hx : SliceS 2 CeS S w [.slice p n c] xs) (hy : SliceS 2 CeS S' w [.slice q m d] ys) :
    Calls Tryz.prog 78 #[.slice p n c, .slice q m d] w fun e w' => e = .returned (.bool (listEq ceEq xs ys)) ∧ Below w.heap.size w w' := by
  have Hx := Lib.hid hx
  have Hy := Lib.hid hy
  obtain ⟨rfl, hlc, hcm⟩ := hx.len
  obtain ⟨rfl, hld, hdm⟩ := hy.len
  unfold maxLen at hcm hdm
  clear hx hy
  by_cases hnm : xs.length = ys.length
  · have Hnm := Lib.hid hnm
    rw [← hnm] at hld ⊢
    clear hnm
    go_enter Tryz.func78, Tryz.ntmps78
    go_wp2_with fail
    go_loopw [5] (fun i wr => ∃ k r : Nat, k ≤ xs.length ∧ i = .int .i64 k ∧ wr = w.drewN r ∧ listEq ceEq xs ys = listEq ceEq (xs.drop k) (ys.drop k)) (fun i _ => xs.length - (intOf i).toNat)
    case atStart => exact ⟨0, 0, Nat.zero_le _, rfl, rfl, rfl⟩
    case round =>
      obtain ⟨k, r, hk, rfl, rfl, he⟩ := hrel
      have He := Lib.hid he
      clear he
      by_cases hlt : k < xs.length
      · have hlt' : k < ys.length := by rw [← Hnm.out]; exact hlt
        obtain ⟨b, o, px, dx, rfl, _, hbl, c0, c1, hqx⟩ := ce_at (Hx.out.below CeS.still (bel_drawN w r)) hlt
        obtain ⟨b', o', py, dy, rfl, _, hbl', e0, e1, hqy⟩ := ce_at (Hy.out.below CeS.still (bel_drawN w r)) hlt'
        have Hst := Lib.hid (listEq_step (f := ceEq) hlt hlt')
        have Hqx := Lib.hid hqx.parts.2.2.2
        have Hqy := Lib.hid hqy.parts.2.2.2
        clear hbl hbl' hqx hqy
        generalize hX : xs[k] = x at *
        generalize hY : ys[k] = y at *
        clear hX hY hlt'
        obtain ⟨wq, hwq⟩ : ∃ wq, wq = w.drewN r := ⟨_, rfl⟩
        rw [← hwq] at c0 e0 c1 e1 Hqx Hqy ⊢
        have Hwq := Lib.hid hwq
        clear hwq
        have hlti : (k : Int) < (xs.length : Int) := by omega
        have hlti' : (k : Int) < (ys.length : Int) := by rw [← Hnm.out]; omega
        have hv1 : ∀ r, (convert 25 9 (.slice px x.bytes.length dx)).run Tryz.prog (wq.drewN r) = .ok (.string (strOf x.bytes)) (wq.drewN r) := fun r => (Hqx.out.drewN r).convert dx _ _ _ Tryz.underlying25 Tryz.underlying5 Tryz.underlying9
        have hv2 : ∀ r, (convert 25 9 (.slice py y.bytes.length dy)).run Tryz.prog (wq.drewN r) = .ok (.string (strOf y.bytes)) (wq.drewN r) := fun r => (Hqy.out.drewN r).convert dy _ _ _ Tryz.underlying25 Tryz.underlying5 Tryz.underlying9
        have hse : ((strOf x.bytes).toList == (strOf y.bytes).toList) = (x.bytes == y.bytes) := by rw [strOf_toList, strOf_toList]
        have hce : ceEq x y = ((x.null == y.null) && (x.bytes == y.bytes)) := rfl
        rw [← hse] at hce
        clear hse
        cases hn : (x.null == y.null) with
        | false =>
          rw [hn, Bool.false_and] at hce
          rw [hce, Bool.false_and] at Hst
          have Hfin := Lib.hid (He.out.trans Hst.out)
          clear hce
          go_wp2_with fail
          go_quiet (fail)
          go_wp2_with fail
          go_ret
          refine ⟨ret_bool Hfin.out.symm, ?_⟩
          rw [Hwq.out, World.drewN_drewN]
          exact bel_drawN w _
        | true =>
          rw [hn, Bool.true_and] at hce
          cases hs : ((strOf x.bytes).toList == (strOf y.bytes).toList) with
          | false =>
            rw [hs] at hce
            rw [hce, Bool.false_and] at Hst
            have Hfin := Lib.hid (He.out.trans Hst.out)
            clear hce
            go_wp2_with fail
            go_quiet (fail)
            go_wp2_with fail
            go_ret
            refine ⟨ret_bool Hfin.out.symm, ?_⟩
            rw [Hwq.out, World.drewN_drewN]
            exact bel_drawN w _
          | true =>
            rw [hs] at hce
            rw [hce, Bool.true_and] at Hst
            clear hce
            go_wp2_with fail
            go_quiet (fail)
            go_wp2_with fail
            go_roundw
            case rel => exact ⟨k + 1, r + nq, by omega, by go_num, by rw [Hwq.out, World.drewN_drewN], He.out.trans Hst.out⟩
            case measure => simp [intOf]; omega
      · obtain rfl : k = xs.length := by omega
        have Hfin := Lib.hid (He.out.trans (listEq_end Hnm.out))
        go_wp2
        go_ret
        exact ⟨ret_bool Hfin.out.symm, bel_drawN w r⟩
  · have Hfin := Lib.hid (listEq_len (f := ceEq) hnm)
    have hnmi : ¬ (xs.length : Int) = (ys.length : Int) := by omega
    go_enter Tryz.func78, Tryz.ntmps78
    go_wp2
    go_ret
    exact ⟨ret_bool Hfin.out.symm, Below.refl _ _⟩

end Go.Proofs.YthhebfknikfleaaGreat

/-
  Messages of clients (layer 6): texts and values that may be; both.
-/
namespace Go.Proofs.YthhebfknikfleaaGreat
open Go.RowKit
set_option linter.unusedVariables false
set_option linter.unusedSimpArgs false

def dirty (s : ByteArray) : Bool := !cleanB s
set_option maxRecDepth 100000 in
set_option maxHeartbeats 4000000 in
theorem rvalues_any (S : Nat → Prop) (p : Option Addr) (n c : Nat) (l : List CeV) (w : World) (h : SliceS 2 CeS S w [.slice p n c] l) :
    Calls Tryz.prog 70 #[.slice p n c] w fun e w' => e = .returned (.bool (valuesV l)) ∧ w = w' := by
  obtain ⟨rfl, hlc, hcm⟩ := h.len
  unfold maxLen at hcm
  have H := Lib.hid h
  have Hv : Hid (valuesV l = (decide ((l.length : Int) ≤ 65535) && !l.any wrongC)) := Lib.hid (by unfold valuesV; congr 1; simp only [decide_eq_decide]; omega)
  generalize valuesV l = v at *
  clear h
  by_cases hlen : (l.length : Int) ≤ 65535
  · rw [decide_eq_true hlen, Bool.true_and] at Hv
    go_enter Tryz.func70, Tryz.ntmps70
    go_wp2_with fail
    go_loopw [3] (fun i wr => ∃ k : Nat, k ≤ l.length ∧ i = .int .i64 k ∧ (∀ j (hj : j < l.length), j < k → wrongC l[j] = false) ∧ wr = w) (fun i _ => l.length - (intOf i).toNat)
    case atStart => exact ⟨0, Nat.zero_le _, rfl, (fun j _ h => by omega), rfl⟩
    case round =>
      obtain ⟨k, hk, rfl, hall, rfl⟩ := hrel
      have Hall := Lib.hid hall
      clear hall
      by_cases hltk : k < l.length
      · obtain ⟨b, o, q, d, rfl, hS, hbl, c0, c1, hq⟩ := ce_at H.out hltk
        have Hbad := Lib.hid (any_at (P := wrongC) hltk)
        have Hgood := Lib.hid (fun h : wrongC l[k] = false => (fun j (hj : j < l.length) (hjk : j < k + 1) => by
          by_cases e : j = k
          · subst e; exact h
          · exact Hall.out j hj (by omega) : ∀ j (hj : j < l.length), j < k + 1 → wrongC l[j] = false))
        have Hx : Hid (wrongC l[k] = ((l[k].null && decide ((0 : Int) < (l[k].bytes.length : Int))) || decide ((1048576 : Int) < (l[k].bytes.length : Int)))) := Lib.hid (by
          unfold wrongC
          have h1 : decide (0 < l[k].bytes.length) = decide ((0 : Int) < (l[k].bytes.length : Int)) := decide_eq_decide.2 (by omega)
          have h2 : decide (1048576 < l[k].bytes.length) = decide ((1048576 : Int) < (l[k].bytes.length : Int)) := decide_eq_decide.2 (by omega)
          rw [h1, h2])
        clear hS hq
        generalize wrongC l[k] = uf at *
        generalize l[k] = x at *
        obtain ⟨xn, xb⟩ := x
        dsimp only at *
        generalize xb.length = m at *
        have hlti : (k : Int) < (l.length : Int) := by omega
        cases huf : uf with
        | true =>
          have Hf := Lib.hid (Hbad.out huf)
          have Huf := Lib.hid huf
          have hx := Hx.out
          rw [huf] at hx
          clear huf
          cases xn with
          | false =>
            have h1 : (1048576 : Int) < (m : Int) := by simpa using hx.symm
            clear hx
            go_wp2_with fail
            go_ret
            exact ⟨ret_bool (by rw [Hv.out, Hf.out]; rfl), rfl⟩
          | true =>
            clear hx
            cases m with
            | zero =>
              exfalso
              have := Hx.out
              rw [show uf = true from Huf.out] at this
              simp at this
            | succ m =>
              go_wp2_with fail
              all_goals
                go_ret
                exact ⟨ret_bool (by rw [Hv.out, Hf.out]; rfl), rfl⟩
        | false =>
          have Hf := Lib.hid (Hgood.out huf)
          have hx := Hx.out
          rw [huf] at hx
          clear huf
          have h1 : ¬ (1048576 : Int) < (m : Int) := by
            intro e
            rw [decide_eq_true e] at hx
            simp at hx
          cases xn with
          | false =>
            clear hx
            go_wp2_with fail
            go_roundw
            case rel => exact ⟨k + 1, by omega, by go_num, Hf.out, by first | rfl | trivial⟩
            case measure => simp [intOf]; omega
          | true =>
            have h0 : ¬ (0 : Int) < (m : Int) := by
              intro e
              rw [decide_eq_true e] at hx
              simp at hx
            obtain rfl : m = 0 := by omega
            clear hx
            go_wp2_with fail
            go_roundw
            case rel => exact ⟨k + 1, by omega, by go_num, Hf.out, by first | rfl | trivial⟩
            case measure => simp [intOf]; omega
      · obtain rfl : k = l.length := by omega
        have Hf := Lib.hid (notAny_all (P := wrongC) (fun j hj => Hall.out j hj hj))
        clear Hall
        go_wp2_with fail
        go_ret
        exact ⟨ret_bool (by rw [Hv.out, Hf.out]; rfl), rfl⟩
  · rw [decide_eq_false hlen] at Hv
    go_enter Tryz.func70, Tryz.ntmps70
    go_wp2_with fail
    go_ret
    exact ⟨ret_bool (by rw [Hv.out]; rfl), rfl⟩

end Go.Proofs.YthhebfknikfleaaGreat

/-
  '==' of two arrays of three texts.
-/
namespace Go.Proofs.YthhebfknikfleaaGreat
open Go.RowKit
set_option linter.unusedVariables false
set_option linter.unusedSimpArgs false

set_option maxRecDepth 10000 in
theorem eql_str3 (a0 a1 a2 b0 b1 b2 : ByteArray) (w : World) :
    (binOp .eql 113 (.agg #[.string a0, .string a1, .string a2]) (.agg #[.string b0, .string b1, .string b2])).run Tryz.prog w = .ok (.bool ((a0.toList == b0.toList) && ((a1.toList == b1.toList) && (a2.toList == b2.toList)))) w := by
  have hu : Tryz.prog.underlying 113 = some (.array 3 9) := Tryz.underlying113
  have u2 := Tryz.underlying9
  have a2' := Tryz.isAgg9
  have z2 := Tryz.sizeOf9
  obtain ⟨d, hd⟩ : ∃ d : Nat, 10000 = d + 1 + 1 := ⟨9998, rfl⟩
  rw [run_eql_struct, hd, Op.equalIn]
  clear hd
  simp only [Sem.run_bind, run_underlying hu, Result.andThen_ok]
  rw [z2]
  simp only [Result.andThen_ok, Std.Legacy.Range.forIn_eq_forIn_range', Std.Legacy.Range.size, List.range', List.forIn_cons, List.forIn_nil, Sem.run_bind]
  go_simp
  by_cases h1 : a0.toList = b0.toList <;> by_cases h2 : a1.toList = b1.toList <;> by_cases h3 : a2.toList = b2.toList <;> simp [h1, h2, h3]

end Go.Proofs.YthhebfknikfleaaGreat

