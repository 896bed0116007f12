/-
  Messages of servers (layer 7): messages' bytes, one behind the other; both.
-/
import Derived.Test.YthhebfknikfleaaGreatBaP
import Derived.Test.YthhebfknikfleaaGreatFrBy
namespace Go.Proofs.YthhebfknikfleaaGreat
open Go.RowKit
set_option linter.unusedVariables false
set_option linter.unusedSimpArgs false

/-- A message in a list. -/
def BaS : Rd BaV := fun S w cs x => ∃ a, cs = (baCells x a).toList ∧ BaL S w x a ∧ BaB x
theorem BaS.still : Still BaS := fun S S' w w' cs x ⟨a, h1, h2, h3⟩ hk => ⟨a, h1, h2.keep hk, h3⟩
theorem BaS.one (S : Nat → Prop) (w : World) (cs : List Value) (x : BaV) (h : BaS S w cs x) : ∀ u ∈ cs, u.oneCell' = true := by
  obtain ⟨a, rfl, _⟩ := h
  intro u hu
  simp only [baCells, List.mem_cons, List.not_mem_nil, or_false] at hu
  rcases hu with rfl | rfl | rfl | rfl | rfl | rfl | rfl | rfl | rfl | rfl | rfl <;> rfl
theorem ba_at {S : Nat → Prop} {w : World} {p : Option Addr} {n c k : Nat} {xs : List BaV} (h : SliceS 11 BaS S w [.slice p n c] xs) (hk : k < xs.length) :
    ∃ b o a, p = some ⟨b, o, none⟩ ∧ b < w.heap.size ∧ BaL S w xs[k] a ∧ BaB xs[k] ∧ w.cell? ⟨b, o + k * 11, none⟩ = some (.int .u8 xs[k].kind) ∧ w.cell? ⟨b, o + k * 11 + 1, none⟩ = some (.int .u8 xs[k].status) ∧ w.cell? ⟨b, o + k * 11 + 2, none⟩ = some (.string xs[k].tag) ∧ w.cell? ⟨b, o + k * 11 + 3, none⟩ = some (.string xs[k].name) ∧ w.cell? ⟨b, o + k * 11 + 4, none⟩ = some (.string xs[k].value) ∧ w.cell? ⟨b, o + k * 11 + 5, none⟩ = some (.int .i64 xs[k].n) ∧ w.cell? ⟨b, o + k * 11 + 6, none⟩ = some (.int .i64 xs[k].m) ∧ w.cell? ⟨b, o + k * 11 + 7, none⟩ = some (.slice a.po xs[k].oids.length a.co) ∧ w.cell? ⟨b, o + k * 11 + 8, none⟩ = some (.slice a.pc xs[k].cols.length a.cc) ∧ w.cell? ⟨b, o + k * 11 + 9, none⟩ = some (.slice a.pr xs[k].row.length a.cr) ∧ w.cell? ⟨b, o + k * 11 + 10, none⟩ = some (.slice a.pf xs[k].fields.length a.cf) := by
  obtain ⟨b, o, cs, rfl, hS, hb, _, hc, a, rfl, hl, hq⟩ := h.elem (by omega) k xs[k] (List.getElem?_eq_getElem hk)
  have c0 := hc 0 _ rfl
  rw [Nat.add_zero] at c0
  exact ⟨b, o, a, rfl, hb, hl, hq, c0, hc 1 _ rfl, hc 2 _ rfl, hc 3 _ rfl, hc 4 _ rfl, hc 5 _ rfl, hc 6 _ rfl, hc 7 _ rfl, hc 8 _ rfl, hc 9 _ rfl, hc 10 _ rfl⟩
/-- A message that may be, and its bytes are few. -/
structure ShortB (x : BaV) : Prop where
  s : SmallB x
  l : (bodyB x).length ≤ 100000
def addB (b : List UInt8) (x : BaV) : List UInt8 := if checkB x = 0 then b ++ msgL (UInt8.ofNat x.kind.toNat) (bodyB x) else b
def bytesB (l : List BaV) : List UInt8 := l.foldl addB []
def bytP (l : List BaV) (k : Nat) : List UInt8 := (l.take k).foldl addB []
theorem bytP_succ {l : List BaV} {k : Nat} (hk : k < l.length) : bytP l (k + 1) = addB (bytP l k) l[k] := by
  unfold bytP
  rw [List.take_succ_eq_append_getElem hk, List.foldl_append]
  rfl
theorem bytP_all (l : List BaV) : bytP l l.length = bytesB l := by
  unfold bytP bytesB
  rw [List.take_length]
theorem addB_len (b : List UInt8) (x : BaV) (h : (bodyB x).length ≤ 100000) : (addB b x).length ≤ b.length + 100005 := by
  unfold addB
  split
  · have := msgL_len (UInt8.ofNat x.kind.toNat) (bodyB x)
    rw [List.length_append]
    omega
  · omega
theorem bytP_len (l : List BaV) (hm : ∀ x ∈ l, (bodyB x).length ≤ 100000) : ∀ k, k ≤ l.length → (bytP l k).length ≤ 100005 * k
  | 0, _ => by simp [bytP]
  | k + 1, hk => by
    have ih := bytP_len l hm k (by omega)
    rw [bytP_succ (by omega)]
    have := addB_len (bytP l k) l[k] (hm l[k] (List.getElem_mem _))
    rw [Nat.mul_add]
    omega
theorem bframe_any (k : Int) (h0 : 0 ≤ k) (h1 : k < 256) (l : List UInt8) (p : Option Addr) (c : Nat) (w : World) (hx : BytesIn w p l) (hl : l.length ≤ 100000) :
    Calls Tryz.prog 79 #[.agg #[.int .u8 k, .slice p l.length c]] w fun e w' => ∃ p c, e = .returned (.slice p (msgL (UInt8.ofNat k.toNat) l).length c) ∧ BytesIn w' p (msgL (UInt8.ofNat k.toNat) l) ∧ Below w.heap.size w w' := by
  have h := frBytes_any (UInt8.ofNat k.toNat) l p c w hx hl
  unfold msgArg at h
  rw [byte_back h0 h1] at h
  refine h.mono ?_
  rintro e w' ⟨v, rfl, ho, hb⟩
  obtain ⟨p', c', rfl, -, -, q, -⟩ := ho.slice
  exact ⟨p', c', rfl, q, hb⟩
theorem rbframe_any (k : Int) (h0 : 0 ≤ k) (h1 : k < 256) (l : List UInt8) (p : Option Addr) (c : Nat) (w : World) (hx : BytesIn w p l) (hl : l.length ≤ 100000) :
    Calls Tryz.prog 80 #[.agg #[.int .u8 k, .slice p l.length c]] w fun e w' => ∃ p c, e = .returned (.slice p (msgL (UInt8.ofNat k.toNat) l).length c) ∧ BytesIn w' p (msgL (UInt8.ofNat k.toNat) l) ∧ Below w.heap.size w w' := by
  have h := frBytesR_any (UInt8.ofNat k.toNat) l p c w hx hl
  unfold msgArg at h
  rw [byte_back h0 h1] at h
  refine h.mono ?_
  rintro e w' ⟨v, rfl, ho, hb⟩
  obtain ⟨p', c', rfl, -, -, q, -⟩ := ho.slice
  exact ⟨p', c', rfl, q, hb⟩

set_option maxRecDepth 100000 in
set_option maxHeartbeats 4000000 in
theorem bbytes_any (S : Nat → Prop) (p : Option Addr) (n c : Nat) (ls : List BaV) (w : World) (hx : SliceS 11 BaS S w [.slice p n c] ls) (hxl : ls.length ≤ 1000) (hm : ∀ x ∈ ls, ShortB x) :
    Calls Tryz.prog 23 #[.slice p n c] w fun e w' => ∃ v', e = .returned v' ∧ OwnBR w.heap.size w' v' (bytesB ls) ∧ Below w.heap.size w w' := by
  obtain ⟨rfl, hlc, hcm⟩ := hx.len
  unfold maxLen at hcm
  have Hx := Lib.hid hx
  have Hall := Lib.hid (bytP_all ls)
  have Hlen := Lib.hid (fun k hk => bytP_len ls (fun x h => (hm x h).l) k hk)
  have Hm := Lib.hid hm
  clear hx hm
  go_enter Tryz.func23, Tryz.ntmps23
  go_wp2_with fail
  go_loopw [3, 10] (fun v i wr => ∃ k : Nat, k ≤ ls.length ∧ i = .int .i64 k ∧ OwnBR w.heap.size wr v (bytP ls k) ∧ Below w.heap.size w wr) (fun _ i _ => ls.length - (intOf i).toNat)
  case atStart => exact ⟨0, Nat.zero_le _, rfl, OwnBR.empty _ _ _, Below.refl _ _⟩
  case round =>
    obtain ⟨k, hk, rfl, ho, hb⟩ := hrel
    have hsz := hb.size
    have Hb := Lib.hid hb
    have Ho := Lib.hid ho
    by_cases hlt : k < ls.length
    · obtain ⟨b, o, a, rfl, hbl, hl, hbb, d0, d1, d2, d3, d4, d5, d6, d7, d8, d9, d10⟩ := ba_at (Hx.out.below BaS.still hb) hlt
      have hlk := Hlen.out k hk
      have hl9 : (bytP ls k).length ≤ 200000000 := by
        have : 100005 * k ≤ 100005 * 1000 := Nat.mul_le_mul (Nat.le_refl _) (by omega)
        omega
      have HS := Lib.hid (Hm.out ls[k] (List.getElem_mem hlt))
      have Hstep := Lib.hid (bytP_succ hlt)
      have Had : Hid (∀ b0, addB b0 ls[k] = if checkB ls[k] = 0 then b0 ++ msgL (UInt8.ofNat ls[k].kind.toNat) (bodyB ls[k]) else b0) := Lib.hid (fun _ => rfl)
      have Hen : Hid (encB ls[k] = if checkB ls[k] = 0 then (ls[k].kind, bodyB ls[k], 0) else (0, [], checkB ls[k])) := Lib.hid rfl
      have Hl := Lib.hid hl
      have Hbb := Lib.hid hbb
      have hbl2 := HS.out.l
      clear ho hb hlk hl hbb
      generalize hxe : ls[k] = x at *
      clear hxe
      have Hc := Lib.hid (fun (wz : World) (hl : BaL S wz x a) => benc_any S x a wz hl Hbb.out HS.out.s)
      unfold EncB at Hc
      have Hk0 := Lib.hid (show 0 ≤ x.kind ∧ x.kind < 256 from ⟨Hbb.out.1, Hbb.out.2.1⟩)
      generalize encB x = ev at *
      generalize bodyB x = bx at *
      generalize checkB x = cx at *
      obtain ⟨xk, xs, xt, xn, xv, xa, xb, xo, xc, xr, xf⟩ := x
      obtain ⟨apo, aco, apc, acc, apr, acr, apf, acf⟩ := a
      unfold baArg baCells at Hc
      dsimp only at *
      have hlti : (k : Int) < (ls.length : Int) := by omega
      have hal : Below wr.heap.size wr (wr.alloc (.cells #[.int .u8 xk, .int .u8 xs, .string xt, .string xn, .string xv, .int .i64 xa, .int .i64 xb, .slice apo xo.length aco, .slice apc xc.length acc, .slice apr xr.length acr, .slice apf xf.length acf] 39)) := (Below.refl _ _).alloc (Nat.le_refl _) _
      have Hla := Lib.hid (Hl.out.below hal)
      have HBa := Lib.hid (Hb.out.trans (hal.mono hsz))
      have Hoa := Lib.hid (Ho.out.below hal)
      have Hka := Lib.hid (Blk.new wr 39 #[.int .u8 xk, .int .u8 xs, .string xt, .string xn, .string xv, .int .i64 xa, .int .i64 xb, .slice apo xo.length aco, .slice apc xc.length acc, .slice apr xr.length acr, .slice apf xf.length acf])
      clear hal Hl
      go_upto_region 5 with fail
      clear d0 d1 d2 d3 d4 d5 d6 d7 d8 d9 d10 hbl
      generalize wr.alloc (.cells #[.int .u8 xk, .int .u8 xs, .string xt, .string xn, .string xv, .int .i64 xa, .int .i64 xb, .slice apo xo.length aco, .slice apc xc.length acc, .slice apr xr.length acr, .slice apf xf.length acf] 39) = wa at *
      generalize hgx : wr.heap.size = gx at *
      have hcx := Hka.out.cell
      have hza : w.heap.size ≤ wa.heap.size := HBa.out.size
      go_wp2_with fail
      refine (Hc.out _ Hla.out).mono ?_
      rintro e w5 ⟨v5, rfl, ho5, hb5⟩
      have HB5 := Lib.hid (HBa.out.trans (hb5.mono hza))
      have Ho5 := Lib.hid ho5
      have Hoo := Lib.hid (Hoa.out.below hb5)
      have hz5 : w.heap.size ≤ w5.heap.size := HB5.out.size
      obtain ⟨n5, p5, c5, hv5⟩ : ∃ n p c, v5 = .slice p n c := by
        obtain ⟨p, c, h, _⟩ := ho5.slice
        exact ⟨_, p, c, h⟩
      subst hv5
      clear ho5 hb5 hcx
      by_cases hcz : cx = 0
      · have hev := Hen.out
        rw [if_pos hcz] at hev
        have hnx := Hstep.out.trans (Had.out _)
        rw [if_pos hcz] at hnx
        have Hnx := Lib.hid hnx
        subst hev
        dsimp only at Ho5 ⊢
        clear hcz hnx Hen
        have hn5 : n5 = bx.length := by
          obtain ⟨p, c, h, _⟩ := Ho5.out.slice
          cases h
          rfl
        subst hn5
        obtain ⟨p', c', hpc, -, -, q5, -⟩ := Ho5.out.slice
        simp only [Value.slice.injEq, true_and] at hpc
        obtain ⟨rfl, rfl⟩ := hpc
        have Hq5 := Lib.hid q5
        clear q5
        have Hkm := Lib.hid (Blk.new w5 42 #[.int .u8 xk, .slice p5 bx.length c5])
        have halm : Below w5.heap.size w5 (w5.alloc (.cells #[.int .u8 xk, .slice p5 bx.length c5] 42)) := (Below.refl _ _).alloc (Nat.le_refl _) _
        have HB6 := Lib.hid (HB5.out.trans (halm.mono hz5))
        have Ho6 := Lib.hid (Hoo.out.below halm)
        have Hq6 := Lib.hid (Hq5.out.below halm)
        have Hfr := Lib.hid (fun wz h => bframe_any xk Hk0.out.1 Hk0.out.2 bx p5 c5 wz h hbl2)
        clear halm
        go_upto_region 6 with fail
        generalize w5.alloc (.cells #[.int .u8 xk, .slice p5 bx.length c5] 42) = w6 at *
        generalize w5.heap.size = g5 at *
        have hcm6 := Hkm.out.cell
        have hz6 := HB6.out.size
        go_wp2_with fail
        refine (Hfr.out w6 Hq6.out).mono ?_
        rintro e w7 ⟨p7, c7, rfl, hq7, hb7⟩
        have Hml := Lib.hid (msgL_len (UInt8.ofNat xk.toNat) bx)
        have Hq7 := Lib.hid hq7
        have HB7 := Lib.hid (HB6.out.trans (hb7.mono hz6))
        have Ho7 := Lib.hid (Ho6.out.below hb7)
        have hz7 := HB7.out.size
        clear hq7 hb7 hcm6
        generalize hM : msgL (UInt8.ofNat xk.toNat) bx = M at *
        have hml := Hml.out
        clear hM
        generalize hQ : bytP ls k = Q at *
        clear hQ
        go_wp2_with (at_builtin; refine step_appendBR _ rfl (.tmp 21) (.tmp 23) rfl w.heap.size _ Q rfl Ho7.out p7 M _ c7 rfl rfl Hq7.out (by omega) hz7 ?_; intro v8 w8 ho8 hg8 hn8; have Ho8 := Lib.hid ho8; have HB8 : Hid (Below w.heap.size w w8) := Lib.hid (HB7.out.trans (Below.of_row hg8 hz7 (fun k hk => (Ho7.out.row k hk).1))); clear ho8 hg8 hn8)
        rw [← Hnx.out] at Ho8
        go_roundw
        case rel => exact ⟨k + 1, by omega, by go_num, Ho8.out, HB8.out⟩
        case measure => simp [intOf]; omega
      · have hev := Hen.out
        rw [if_neg hcz] at hev
        have hnx := Hstep.out.trans (Had.out _)
        rw [if_neg hcz] at hnx
        have Hnx := Lib.hid hnx
        have hcb : (cx == 0) = false := by simpa using hcz
        subst hev
        dsimp only at Ho5 ⊢
        clear hcz hnx Hen
        have halm : Below w5.heap.size w5 (w5.alloc (.cells #[.int .u8 0, .slice p5 n5 c5] 42)) := (Below.refl _ _).alloc (Nat.le_refl _) _
        have HB6 := Lib.hid (HB5.out.trans (halm.mono hz5))
        have Ho6 := Lib.hid (Hoo.out.below halm)
        rw [← Hnx.out] at Ho6
        clear halm
        go_wp2_with fail
        go_roundw
        case rel => exact ⟨k + 1, by omega, by go_num, Ho6.out, HB6.out⟩
        case measure => simp [intOf]; omega
    · obtain rfl : k = ls.length := by omega
      rw [Hall.out] at ho
      have Hoe := Lib.hid ho
      clear ho hb Ho
      go_wp2_with fail
      go_ret
      exact ⟨_, rfl, Hoe.out, Hb.out⟩

set_option maxRecDepth 100000 in
set_option maxHeartbeats 4000000 in
theorem rbbytes_any (S : Nat → Prop) (p : Option Addr) (n c : Nat) (ls : List BaV) (w : World) (hx : SliceS 11 BaS S w [.slice p n c] ls) (hxl : ls.length ≤ 1000) (hm : ∀ x ∈ ls, ShortB x) :
    Calls Tryz.prog 24 #[.slice p n c] w fun e w' => ∃ v', e = .returned v' ∧ OwnBR w.heap.size w' v' (bytesB ls) ∧ Below w.heap.size w w' := by
  obtain ⟨rfl, hlc, hcm⟩ := hx.len
  unfold maxLen at hcm
  have Hx := Lib.hid hx
  have Hall := Lib.hid (bytP_all ls)
  have Hlen := Lib.hid (fun k hk => bytP_len ls (fun x h => (hm x h).l) k hk)
  have Hm := Lib.hid hm
  clear hx hm
  go_enter Tryz.func24, Tryz.ntmps24
  go_wp2_with fail
  go_loopw [3, 4] (fun v i wr => ∃ k : Nat, k ≤ ls.length ∧ i = .int .i64 k ∧ OwnBR w.heap.size wr v (bytP ls k) ∧ Below w.heap.size w wr) (fun _ i _ => ls.length - (intOf i).toNat)
  case atStart => exact ⟨0, Nat.zero_le _, rfl, OwnBR.empty _ _ _, Below.refl _ _⟩
  case round =>
    obtain ⟨k, hk, rfl, ho, hb⟩ := hrel
    have hsz := hb.size
    have Hb := Lib.hid hb
    have Ho := Lib.hid ho
    by_cases hlt : k < ls.length
    · obtain ⟨b, o, a, rfl, hbl, hl, hbb, d0, d1, d2, d3, d4, d5, d6, d7, d8, d9, d10⟩ := ba_at (Hx.out.below BaS.still hb) hlt
      have hlk := Hlen.out k hk
      have hl9 : (bytP ls k).length ≤ 200000000 := by
        have : 100005 * k ≤ 100005 * 1000 := Nat.mul_le_mul (Nat.le_refl _) (by omega)
        omega
      have HS := Lib.hid (Hm.out ls[k] (List.getElem_mem hlt))
      have Hstep := Lib.hid (bytP_succ hlt)
      have Had : Hid (∀ b0, addB b0 ls[k] = if checkB ls[k] = 0 then b0 ++ msgL (UInt8.ofNat ls[k].kind.toNat) (bodyB ls[k]) else b0) := Lib.hid (fun _ => rfl)
      have Hen : Hid (encB ls[k] = if checkB ls[k] = 0 then (ls[k].kind, bodyB ls[k], 0) else (0, [], checkB ls[k])) := Lib.hid rfl
      have Hl := Lib.hid hl
      have Hbb := Lib.hid hbb
      have hbl2 := HS.out.l
      clear ho hb hlk hl hbb
      generalize hxe : ls[k] = x at *
      clear hxe
      have Hc := Lib.hid (fun (wz : World) (hl : BaL S wz x a) => rbenc_any S x a wz hl Hbb.out HS.out.s)
      unfold EncB at Hc
      have Hk0 := Lib.hid (show 0 ≤ x.kind ∧ x.kind < 256 from ⟨Hbb.out.1, Hbb.out.2.1⟩)
      generalize encB x = ev at *
      generalize bodyB x = bx at *
      generalize checkB x = cx at *
      obtain ⟨xk, xs, xt, xn, xv, xa, xb, xo, xc, xr, xf⟩ := x
      obtain ⟨apo, aco, apc, acc, apr, acr, apf, acf⟩ := a
      unfold baArg baCells at Hc
      dsimp only at *
      have hlti : (k : Int) < (ls.length : Int) := by omega
      have hal : Below wr.heap.size wr wr := Below.refl _ _
      have Hla := Lib.hid (Hl.out.below hal)
      have HBa := Lib.hid Hb.out
      have Hoa := Lib.hid Ho.out
      clear hal Hl
      have hza : w.heap.size ≤ wr.heap.size := hsz
      go_wp2_with fail
      refine (Hc.out _ Hla.out).mono ?_
      rintro e w5 ⟨v5, rfl, ho5, hb5⟩
      have HB5 := Lib.hid (HBa.out.trans (hb5.mono hza))
      have Ho5 := Lib.hid ho5
      have Hoo := Lib.hid (Hoa.out.below hb5)
      have hz5 : w.heap.size ≤ w5.heap.size := HB5.out.size
      obtain ⟨n5, p5, c5, hv5⟩ : ∃ n p c, v5 = .slice p n c := by
        obtain ⟨p, c, h, _⟩ := ho5.slice
        exact ⟨_, p, c, h⟩
      subst hv5
      clear ho5 hb5 d0 d1 d2 d3 d4 d5 d6 d7 d8 d9 d10 hbl
      by_cases hcz : cx = 0
      · have hev := Hen.out
        rw [if_pos hcz] at hev
        have hnx := Hstep.out.trans (Had.out _)
        rw [if_pos hcz] at hnx
        have Hnx := Lib.hid hnx
        subst hev
        dsimp only at Ho5 ⊢
        clear hcz hnx Hen
        have hn5 : n5 = bx.length := by
          obtain ⟨p, c, h, _⟩ := Ho5.out.slice
          cases h
          rfl
        subst hn5
        obtain ⟨p', c', hpc, -, -, q5, -⟩ := Ho5.out.slice
        simp only [Value.slice.injEq, true_and] at hpc
        obtain ⟨rfl, rfl⟩ := hpc
        have Hq5 := Lib.hid q5
        clear q5
        have Hkm := Lib.hid (Blk.new w5 42 #[.int .u8 xk, .slice p5 bx.length c5])
        have halm : Below w5.heap.size w5 (w5.alloc (.cells #[.int .u8 xk, .slice p5 bx.length c5] 42)) := (Below.refl _ _).alloc (Nat.le_refl _) _
        have HB6 := Lib.hid (HB5.out.trans (halm.mono hz5))
        have Ho6 := Lib.hid (Hoo.out.below halm)
        have Hq6 := Lib.hid (Hq5.out.below halm)
        have Hfr := Lib.hid (fun wz h => rbframe_any xk Hk0.out.1 Hk0.out.2 bx p5 c5 wz h hbl2)
        clear halm
        go_upto_region 6 with fail
        generalize w5.alloc (.cells #[.int .u8 xk, .slice p5 bx.length c5] 42) = w6 at *
        generalize w5.heap.size = g5 at *
        have hcm6 := Hkm.out.cell
        have hz6 := HB6.out.size
        go_wp2_with fail
        refine (Hfr.out w6 Hq6.out).mono ?_
        rintro e w7 ⟨p7, c7, rfl, hq7, hb7⟩
        have Hml := Lib.hid (msgL_len (UInt8.ofNat xk.toNat) bx)
        have Hq7 := Lib.hid hq7
        have HB7 := Lib.hid (HB6.out.trans (hb7.mono hz6))
        have Ho7 := Lib.hid (Ho6.out.below hb7)
        have hz7 := HB7.out.size
        clear hq7 hb7 hcm6
        generalize hM : msgL (UInt8.ofNat xk.toNat) bx = M at *
        have hml := Hml.out
        clear hM
        generalize hQ : bytP ls k = Q at *
        clear hQ
        go_wp2_with (at_builtin; refine step_appendBR _ rfl (.tmp 23) (.tmp 25) rfl w.heap.size _ Q rfl Ho7.out p7 M _ c7 rfl rfl Hq7.out (by omega) hz7 ?_; intro v8 w8 ho8 hg8 hn8; have Ho8 := Lib.hid ho8; have HB8 : Hid (Below w.heap.size w w8) := Lib.hid (HB7.out.trans (Below.of_row hg8 hz7 (fun k hk => (Ho7.out.row k hk).1))); clear ho8 hg8 hn8)
        rw [← Hnx.out] at Ho8
        go_roundw
        case rel => exact ⟨k + 1, by omega, by go_num, Ho8.out, HB8.out⟩
        case measure => simp [intOf]; omega
      · have hev := Hen.out
        rw [if_neg hcz] at hev
        have hnx := Hstep.out.trans (Had.out _)
        rw [if_neg hcz] at hnx
        have Hnx := Lib.hid hnx
        have hcb : (cx == 0) = false := by simpa using hcz
        subst hev
        dsimp only at Ho5 ⊢
        clear hcz hnx Hen
        have halm : Below w5.heap.size w5 (w5.alloc (.cells #[.int .u8 0, .slice p5 n5 c5] 42)) := (Below.refl _ _).alloc (Nat.le_refl _) _
        have HB6 := Lib.hid (HB5.out.trans (halm.mono hz5))
        have Ho6 := Lib.hid (Hoo.out.below halm)
        rw [← Hnx.out] at Ho6
        clear halm
        go_wp2_with fail
        go_roundw
        case rel => exact ⟨k + 1, by omega, by go_num, Ho6.out, HB6.out⟩
        case measure => simp [intOf]; omega
    · obtain rfl : k = ls.length := by omega
      rw [Hall.out] at ho
      have Hoe := Lib.hid ho
      clear ho hb Ho
      go_wp2_with fail
      go_ret
      exact ⟨_, rfl, Hoe.out, Hb.out⟩

end Go.Proofs.YthhebfknikfleaaGreat
