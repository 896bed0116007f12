/-
  Messages of servers (layer 7): the program's writer: row, fields.
-/
import Derived.Test.YthhebfknikfleaaGreatBaL
import Derived.Test.YthhebfknikfleaaGreatPackD
namespace Go.Proofs.YthhebfknikfleaaGreat
open Go.RowKit
set_option linter.unusedVariables false
set_option linter.unusedSimpArgs false

theorem byte_back {k : Int} (h0 : 0 ≤ k) (h1 : k < 256) : (((UInt8.ofNat k.toNat).toNat : Nat) : Int) = k := by simp; omega

set_option maxRecDepth 100000 in
set_option maxHeartbeats 4000000 in
theorem bwrow_any (B : Nat) (G : Nat → Prop) (wb : Nat) (l : List UInt8) (S : Nat → Prop) (p : Option Addr) (n c : Nat) (xs : List CeV) (w : World) (h : WbO B G w wb l) (hB : B ≤ w.heap.size) (hx : SliceS 2 CeS S w [.slice p n c] xs) (hS : ∀ k, k < w.heap.size → S k → ¬ wbD B G k)
    (hl : l.length ≤ 10000000) (hxl : xs.length ≤ 10000) (hm : ∀ c ∈ xs, c.bytes.length ≤ 10000) :
    Calls Tryz.prog 43 #[.pointer (some ⟨wb, 0, none⟩), .slice p n c] w (WbR B G w wb (rowB l xs)) := by
  obtain ⟨rfl, hlc, hcm⟩ := hx.len
  unfold maxLen at hcm
  have Hx := Lib.hid hx
  have HS := Lib.hid hS
  have Hall := Lib.hid (rowP_all l xs)
  have Hlen := Lib.hid (fun k hk => rowP_len l xs 10000 hm k hk)
  have Hm := Lib.hid hm
  have Hp := Lib.hid (bnum_any B G wb l (xs.length : Int) 2 w h hB (by omega))
  unfold WbR at Hp
  clear h hx hS hm
  generalize hnl : l.length = nl at *
  have Hnl := Lib.hid hnl
  clear hnl
  go_enter Tryz.func43, Tryz.ntmps43
  go_wp2_with fail
  refine Hp.out.mono ?_
  rintro e w1 ⟨rfl, ho1, hT1⟩
  have H1 : Hid (WbO B G w1 wb (rowP l xs 0)) := Lib.hid ho1
  have HT1 := Lib.hid hT1
  clear ho1 hT1 Hp
  go_wp2_with fail
  go_loopw [12] (fun i wr => ∃ k : Nat, k ≤ xs.length ∧ i = .int .i64 k ∧ WbO B G wr wb (rowP l xs k) ∧ Touch (wbD B G) w wr) (fun i _ => xs.length - (intOf i).toNat)
  case atStart => exact ⟨0, Nat.zero_le _, rfl, H1.out, HT1.out⟩
  case round =>
    obtain ⟨k, hk, rfl, hw, hT⟩ := hrel
    have hsz := hT.size
    have HW := Lib.hid hw
    have HT := Lib.hid hT
    by_cases hlt : k < xs.length
    · have hxr := (SliceS.still CeS.still) _ _ _ _ _ _ Hx.out (Kept.touch (S' := fun k => ¬ wbD B G k) hT (fun k hk hs => ⟨HS.out k hk hs, HS.out k hk hs⟩))
      obtain ⟨b, o, qx, dx, rfl, _, hbl, c0, c1', hqx⟩ := ce_at hxr hlt
      have hlk := Hlen.out k hk
      have hbk := Hm.out xs[k] (List.getElem_mem hlt)
      have hl9 : (rowP l xs k).length ≤ 200000000 := by
        have : 10004 * k ≤ 10004 * 10000 := Nat.mul_le_mul (Nat.le_refl _) (by omega)
        omega
      have Hstep := Lib.hid (rowP_succ (b := l) hlt)
      have Hcb : Hid (∀ b0, cellB b0 xs[k] = if xs[k].null then putV b0 4294967295 4 else putV b0 xs[k].bytes.length 4 ++ xs[k].bytes) := Lib.hid (fun _ => rfl)
      obtain ⟨qx', dx', e', _, _, hqi, hqb⟩ := hqx
      simp only [List.cons.injEq, Value.slice.injEq, and_true] at e'
      obtain ⟨rfl, -, rfl⟩ := e'
      have Hqx := Lib.hid (And.intro hqi hqb)
      clear hqi hqb
      have hBr : B ≤ wr.heap.size := by omega
      clear hw hT hxr hlk
      generalize xs[k] = x at *
      obtain ⟨xn, xb⟩ := x
      dsimp only at *
      have hlti : (k : Int) < (xs.length : Int) := by omega
      have HA := Lib.hid (WbG.start HW.out hBr 83 #[.bool xn, .slice qx xb.length dx])
      go_upto_region 4 with fail
      clear c0 c1' hbl HW
      generalize wr.alloc (.cells #[.bool xn, .slice qx xb.length dx] 83) = wa at *
      generalize hg5 : wr.heap.size = g5 at *
      have hcg := HA.out.b.cell
      cases xn with
      | true =>
        have Hk := Lib.hid (bnum_any _ _ _ _ 4294967295 4 wa HA.out.o HA.out.hz (by omega))
        have Hnx : Hid (rowP l xs (k + 1) = putV (rowP l xs k) 4294967295 4) := Lib.hid (by rw [Hstep.out, Hcb.out]; rfl)
        rw [← Hnx.out] at Hk
        unfold WbR at Hk
        go_wp2_with fail
        refine Hk.out.mono ?_
        rintro e w4 ⟨rfl, ho4, hT4⟩
        have H4 := Lib.hid (HA.out.step ho4 hT4)
        clear ho4 hT4 Hk hcg
        go_wp2_with fail
        go_roundw
        case rel => exact ⟨k + 1, by omega, by go_num, H4.out.done, HT.out.trans H4.out.t⟩
        case measure => simp [intOf]; omega
      | false =>
        have hpl4 := putV_len4 (rowP l xs k) (xb.length : Int) 4
        have Hk := Lib.hid (bnum_any _ _ _ _ (xb.length : Int) 4 wa HA.out.o HA.out.hz (by omega))
        have Hnx : Hid (rowP l xs (k + 1) = putV (rowP l xs k) (xb.length : Int) 4 ++ xb) := Lib.hid (by rw [Hstep.out, Hcb.out]; rfl)
        unfold WbR at Hk
        generalize putV (rowP l xs k) (xb.length : Int) 4 = Q at *
        generalize (rowP l xs k).length = n3 at *
        go_wp2_with fail
        refine Hk.out.mono ?_
        rintro e w4 ⟨rfl, ho4, hT4⟩
        have H4 := Lib.hid (HA.out.step ho4 hT4)
        clear ho4 hT4 Hk hcg
        have hcg := H4.out.b.cell
        have hq4 := H4.out.t.bytesIn Hqx.out.1 (fun hne a e => Hqx.out.2 hne a e)
        have Hq4 := Lib.hid hq4
        have hB4 := H4.out.hz
        obtain ⟨v4, hv4⟩ := H4.out.o
        have HV := Lib.hid hv4
        have hcw := hv4.b.cell
        have hwl := hv4.b.lt
        clear hv4 hq4
        go_upto_region 7 with fail
        go_region_law (refine rgn_appendBR rfl (.tmp 29) (.tmp 31) rfl B v4 Q rfl HV.out.drew.own qx xb _ dx rfl rfl (Hq4.out.below (bel_drew w4)) (by omega) hB4 ?_; intro v5 w5 ho5 hg5 hn5; obtain ⟨n5, p5, c5, hv5⟩ : ∃ n p c, v5 = .slice p n c := (by obtain ⟨p, c, h, _⟩ := OwnBR.slice ho5; exact ⟨_, p, c, h⟩); subst hv5; have HG5 := Lib.hid (HV.out.drew.grow ho5 hg5 hn5); have hc5 := HG5.out.1.b.cell; have hf5 := HG5.out.1.b.frozen; have hk5 : ∀ i, w5.cell? ⟨g5, i, none⟩ = (#[.bool false, .slice qx xb.length dx] : Array Value)[i]? := (HG5.out.2.blk (Blk.drew H4.out.b) (fun e => e.2 (.inr rfl))).cell; clear ho5 hg5 hn5)
        all_goals
          have HS5 := Lib.hid HG5.out.1.store
          rw [← Hnx.out] at HS5
          have H6 := Lib.hid (H4.out.step ⟨_, HS5.out.1⟩ ((((Touch.refl _ w4).drew).trans HG5.out.2).trans HS5.out.2))
          clear hcg hcw hc5 hf5 hk5
          go_wp2_with fail
          go_roundw
          case rel => exact ⟨k + 1, by omega, by go_num, H6.out.done, HT.out.trans H6.out.t⟩
          case measure => simp [intOf]; omega
    · obtain rfl : k = xs.length := by omega
      rw [Hall.out] at hw
      have HWe := Lib.hid hw
      clear hw hT HW
      go_wp2_with fail
      go_end0
      exact ⟨rfl, HWe.out, HT.out⟩

/-- Bytes with the first fields of a list behind them. -/
def fldP (b : List UInt8) (l : List FdV) (k : Nat) : List UInt8 := (l.take k).foldl fieldW b
theorem fldP_succ {b : List UInt8} {l : List FdV} {k : Nat} (hk : k < l.length) : fldP b l (k + 1) = strB (fldP b l k ++ [UInt8.ofNat l[k].code.toNat]) l[k].text := by
  unfold fldP
  rw [List.take_succ_eq_append_getElem hk, List.foldl_append]
  rfl
theorem fldP_all (b : List UInt8) (l : List FdV) : fldP b l l.length = l.foldl fieldW b := by
  unfold fldP
  rw [List.take_length]
theorem fldP_len (b : List UInt8) (l : List FdV) (m : Nat) (hm : ∀ c ∈ l, c.text.size ≤ m) : ∀ k, k ≤ l.length → (fldP b l k).length ≤ b.length + (m + 2) * k
  | 0, _ => by simp [fldP]
  | k + 1, hk => by
    have ih := fldP_len b l m hm k (by omega)
    rw [fldP_succ (by omega), strB_len, List.length_append, List.length_singleton]
    have := hm l[k] (List.getElem_mem _)
    rw [Nat.mul_add]
    omega

set_option maxRecDepth 100000 in
set_option maxHeartbeats 4000000 in
theorem bwfields_any (B : Nat) (G : Nat → Prop) (wb : Nat) (l : List UInt8) (S : Nat → Prop) (p : Option Addr) (n c : Nat) (xs : List FdV) (w : World) (h : WbO B G w wb l) (hB : B ≤ w.heap.size) (hx : SliceS 2 FdS S w [.slice p n c] xs) (hS : ∀ k, k < w.heap.size → S k → ¬ wbD B G k)
    (hl : l.length ≤ 1000000) (hxl : xs.length ≤ 1000) (hm : ∀ c ∈ xs, c.text.size ≤ 10000) :
    Calls Tryz.prog 45 #[.pointer (some ⟨wb, 0, none⟩), .slice p n c] w (WbR B G w wb (xs.foldl fieldW l ++ [0])) := by
  obtain ⟨rfl, hlc, hcm⟩ := hx.len
  unfold maxLen at hcm
  have Hx := Lib.hid hx
  have HS := Lib.hid hS
  have Hall := Lib.hid (fldP_all l xs)
  have Hlen := Lib.hid (fun k hk => fldP_len l xs 10000 hm k hk)
  have Hm := Lib.hid hm
  have H1 : Hid (WbO B G w wb (fldP l xs 0)) := Lib.hid h
  clear h hx hS hm
  generalize hnl : l.length = nl at *
  have Hnl := Lib.hid hnl
  clear hnl
  go_enter Tryz.func45, Tryz.ntmps45
  go_wp2_with fail
  go_loopw [8] (fun i wr => ∃ k : Nat, k ≤ xs.length ∧ i = .int .i64 k ∧ WbO B G wr wb (fldP l xs k) ∧ Touch (wbD B G) w wr) (fun i _ => xs.length - (intOf i).toNat)
  case atStart => exact ⟨0, Nat.zero_le _, rfl, H1.out, Touch.refl _ _⟩
  case round =>
    obtain ⟨k, hk, rfl, hw, hT⟩ := hrel
    have hsz := hT.size
    have HW := Lib.hid hw
    have HT := Lib.hid hT
    have hlk := Hlen.out k hk
    have hl9 : (fldP l xs k).length ≤ 20000000 := by
      have : 10002 * k ≤ 10002 * 1000 := Nat.mul_le_mul (Nat.le_refl _) (by omega)
      omega
    clear hlk
    have hBr : B ≤ wr.heap.size := by omega
    by_cases hlt : k < xs.length
    · have hxr := (SliceS.still FdS.still) _ _ _ _ _ _ Hx.out (Kept.touch (S' := fun k => ¬ wbD B G k) hT (fun k hk hs => ⟨HS.out k hk hs, HS.out k hk hs⟩))
      obtain ⟨b, o, rfl, _, hbl, c0, c1', hq, hq0, hq1⟩ := fd_at hxr hlt
      have hbk := Hm.out xs[k] (List.getElem_mem hlt)
      have Hstep := Lib.hid (fldP_succ (b := l) hlt)
      have Hby := Lib.hid (byte_back hq0 hq1)
      clear hw hT hxr hq
      generalize xs[k] = x at *
      obtain ⟨xc, xt⟩ := x
      dsimp only at *
      have hlti : (k : Int) < (xs.length : Int) := by omega
      have HA := Lib.hid (WbG.start HW.out hBr 87 #[.int .u8 xc, .string xt])
      go_upto_region 3 with fail
      clear c0 c1' hbl HW
      generalize wr.alloc (.cells #[.int .u8 xc, .string xt] 87) = wa at *
      generalize hg5 : wr.heap.size = g5 at *
      have hcg := HA.out.b.cell
      have hB4 := HA.out.hz
      obtain ⟨v4, hv4⟩ := HA.out.o
      have HV := Lib.hid hv4
      have hcw := hv4.b.cell
      have hwl := hv4.b.lt
      clear hv4
      generalize hQ : fldP l xs k = Q at *
      clear hQ
      go_region_law (refine rgn_appendBR rfl (.tmp 16) (.tmp 19) rfl B v4 Q rfl (HV.out.alloc _).drew.own _ [UInt8.ofNat xc.toNat] _ _ rfl rfl ((BytesIn.new1 wa _ xc _ Hby.out).below (bel_drew _)) (by rw [List.length_singleton]; omega) (show B ≤ (wa.alloc _).heap.size by rw [World.size_alloc]; exact Nat.le_succ_of_le hB4) ?_; intro v5 w5 ho5 hg5 hn5; obtain ⟨n5, p5, c5, hv5⟩ : ∃ n p c, v5 = .slice p n c := (by obtain ⟨p, c, h, _⟩ := OwnBR.slice ho5; exact ⟨_, p, c, h⟩); subst hv5; have HG5 := Lib.hid ((HV.out.alloc _).drew.grow ho5 hg5 hn5); have hc5 := HG5.out.1.b.cell; have hf5 := HG5.out.1.b.frozen; have hk5 : ∀ i, w5.cell? ⟨g5, i, none⟩ = (#[.int .u8 xc, .string xt] : Array Value)[i]? := (HG5.out.2.blk (Blk.drew (HA.out.b.alloc _)) (fun e => e.2 (.inr rfl))).cell; clear ho5 hg5 hn5)
      all_goals
        have HS5 := Lib.hid HG5.out.1.store
        have H6 := Lib.hid (HA.out.step ⟨_, HS5.out.1⟩ (((((Touch.refl _ wa).alloc _).drew).trans HG5.out.2).trans HS5.out.2))
        clear hcg hcw hc5 hf5 hk5
        generalize w5.setCell ⟨wb, 0, none⟩ (.slice p5 n5 c5) = w6 at *
        have hcg := H6.out.b.cell
        have Hk := Lib.hid (btext_any _ _ _ _ xt w6 H6.out.o H6.out.hz (by rw [List.length_append, List.length_singleton]; omega) (by omega))
        rw [← Hstep.out] at Hk
        unfold WbR at Hk
        go_wp2_with fail
        refine Hk.out.mono ?_
        rintro e w7 ⟨rfl, ho7, hT7⟩
        have H7 := Lib.hid (H6.out.step ho7 hT7)
        clear ho7 hT7 Hk hcg
        go_wp2_with fail
        go_roundw
        case rel => exact ⟨k + 1, by omega, by go_num, H7.out.done, HT.out.trans H7.out.t⟩
        case measure => simp [intOf]; omega
    · obtain rfl : k = xs.length := by omega
      rw [Hall.out] at hw hl9
      obtain ⟨v, hv⟩ := hw
      have HV := Lib.hid hv
      have hcw := hv.b.cell
      have hwl := hv.b.lt
      clear hv hT HW
      generalize xs.foldl fieldW l = Q at *
      go_wp2_with (at_builtin; refine step_appendBR _ rfl (.tmp 32) (.tmp 33) rfl B v Q rfl (HV.out.own.alloc _) (some ⟨wr.heap.size, 0, none⟩) [0] 1 1 rfl rfl (BytesIn.new1 wr 0 0 _ rfl) (by rw [List.length_singleton]; omega) (by rw [World.size_alloc]; omega) ?_; intro v6 w6 ho6 hg6 hn6; obtain ⟨n6, p6, c6, hv6⟩ : ∃ n p c, v6 = .slice p n c := (by obtain ⟨p, c, h, _⟩ := OwnBR.slice ho6; exact ⟨_, p, c, h⟩); subst hv6; have HG6 := Lib.hid ((HV.out.alloc _).grow ho6 hg6 hn6); have hcw6 := HG6.out.1.b.cell; have hfw6 := HG6.out.1.b.frozen; clear ho6 hg6 hn6)
      have HS6 := Lib.hid HG6.out.1.store
      have HT6 : Hid (Touch (wbD B G) w (w6.setCell ⟨wb, 0, none⟩ (.slice p6 n6 c6))) := Lib.hid (((HT.out.alloc _).trans HG6.out.2).trans HS6.out.2)
      clear hcw hcw6 hfw6
      go_end0
      exact ⟨rfl, ⟨_, HS6.out.1⟩, HT6.out⟩

end Go.Proofs.YthhebfknikfleaaGreat
