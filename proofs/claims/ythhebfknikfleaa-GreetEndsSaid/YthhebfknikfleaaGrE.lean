/-
  What is said first (layer 11): the walks of GreetTells and GreetEnds.
-/
import Derived.Test.YthhebfknikfleaaGrD
import Derived.Test.YthhebfknikfleaaBaI
import Derived.Test.YthhebfknikfleaaPackA
import Derived.StillTailTactics
namespace Go.Proofs.Ythhebfknikfleaa
open Go.RowKit
set_option linter.unusedVariables false
set_option linter.unusedSimpArgs false

theorem below_drewG {B : Nat} {w w' : World} (h : Below B w.drew w') (hB : B ≤ w.heap.size) : Below B w w' := by
  have hd : Below B w w.drew := ((Touch.refl (fun _ => False) w).drew).below hB (fun k e => e.elim)
  exact hd.trans h
theorem eqB_true {w : World} {p q : Option Addr} {c d : Nat} {l : List UInt8} (h : BytesIn w p l) (g : BytesIn w q l) :
    Calls Try.prog 16 #[.slice p l.length c, .slice q l.length d] w fun e w' => e = .returned (.bool true) ∧ w = w' := by
  have := equal_any p q l l c d w h g
  rw [beq_self_eq_true] at this
  exact this

set_option maxRecDepth 100000 in
set_option maxHeartbeats 4000000 in
theorem greetTells_walk (p : Option Addr) (n c : Nat) (l : List PaV) (id : Int) (w0 : World) (h : SliceS 2 PaS (fun k => k < w0.heap.size) w0 [.slice p n c] l) :
    Calls Try.prog 3 #[.slice p n c, .int .i64 id] w0 fun e w' => e = .returned (.bool true) ∧ Below w0.heap.size w0 w' := by
  obtain ⟨rfl, hlc, hcm⟩ := h.len
  unfold maxLen at hcm
  have Haw := Lib.hid (fun w => grAwake_any w)
  have Hl := Lib.hid h
  have HF := Lib.hid (gfar_any _ _ _ _ l w0 h)
  have Hk := Lib.hid (fun w => keys_any id w)
  have Hrk := Lib.hid (fun w => rkeys_any id w)
  clear h
  go_enter Try.func3, Try.ntmps3
  go_wp2_with fail
  refine HF.out.mono ?_
  rintro e w1 ⟨bf, rfl, hn, hb⟩
  have HB1 := Lib.hid hb
  have Hl1 := Lib.hid (Hl.out.below PaS.still hb)
  have Hn := Lib.hid hn
  clear hb hn Hl HF
  cases bf with
  | true =>
    go_wp2_with fail
    refine (Haw.out _).mono ?_
    rintro e wz ⟨rfl, hb⟩
    have HBz := Lib.hid (HB1.out.trans (hb.mono HB1.out.size))
    clear hb
    go_wp2_with fail
    go_ret
    exact ⟨rfl, HBz.out⟩
  | false =>
    have hnear := Hn.out rfl
    have Hsh := Lib.hid (greet_short id hnear)
    have hl40 : l.length ≤ 40 := hnear.1
    have hgl := greet_len l id
    clear Hn hnear
    have HBk := Lib.hid (backs_any _ _ _ _ l id w1 Hl1.out (by omega))
    go_wp2_with fail
    refine HBk.out.mono ?_
    rintro e w2 ⟨p2, c2, rfl, hs2, hb⟩
    have HB2 := Lib.hid (HB1.out.trans (hb.mono HB1.out.size))
    have Hl2 := Lib.hid (Hl1.out.below PaS.still hb)
    have Hs2 := Lib.hid hs2
    have hc2 := hs2.len.2.1
    have hm2 := hs2.len.2.2
    unfold maxLen at hm2
    clear hb hs2 HBk Hl1
    have HBr := Lib.hid (rbacks_any _ _ _ _ l id w2 Hl2.out (by omega))
    go_wp2_with fail
    refine HBr.out.mono ?_
    rintro e w3 ⟨p3, c3, rfl, hs3, hb⟩
    have HB3 := Lib.hid (HB2.out.trans (hb.mono HB2.out.size))
    have Hl3 := Lib.hid (Hl2.out.below PaS.still hb)
    have Hs23 := Lib.hid (Hs2.out.below BaS.still hb)
    have Hs3 := Lib.hid hs3
    have hc3 := hs3.len.2.1
    have hm3 := hs3.len.2.2
    unfold maxLen at hm3
    clear hb hs3 HBr Hl2 Hs2
    rw [hgl] at hc2 hc3
    have hz3 := HB3.out.size
    have HY := Lib.hid (fun (w : World) (hw : Below w3.heap.size w3 w) => gbytes_any _ p _ c l id w (Hl3.out.below PaS.still hw) (by omega) Hsh.out)
    have HZ := Lib.hid (fun (w : World) (hw : Below w3.heap.size w3 w) => rgbytes_any _ p _ c l id w (Hl3.out.below PaS.still hw) (by omega) Hsh.out)
    clear Hl3 Hsh
    generalize greetV l id = G at *
    generalize hN : l.length + 3 = N at *
    go_wp2_with fail
    go_loopw [28] (fun i wr => ∃ k : Nat, k ≤ N ∧ i = .int .i64 k ∧ Below w3.heap.size w3 wr) (fun i _ => N - (intOf i).toNat)
    case atStart => exact ⟨0, Nat.zero_le _, rfl, Below.refl _ _⟩
    case round =>
      obtain ⟨k, hk, rfl, hb⟩ := hrel
      have hbs := hb.size
      have Hb := Lib.hid hb
      clear hb
      by_cases hlt : k < N
      · have hlg : k < G.length := by omega
        have hwk : IntKind.i64.wrap ((k : Int) + 1) = (k : Int) + 1 := by rw [IntKind.wrap_i64]; omega
        obtain ⟨b, o, a, rfl, hbl, hL, -, q0, q1, q2, q3, q4, q5, q6, q7, q8, q9, q10⟩ := ba_at (Hs23.out.below BaS.still Hb.out) hlg
        obtain ⟨b', o', a', rfl, hbl', hL', -, e0, e1, e2, e3, e4, e5, e6, e7, e8, e9, e10⟩ := ba_at (Hs3.out.below BaS.still Hb.out) hlg
        have hbd : Below wr.heap.size wr wr.drew := below_drewG (Below.refl _ _) (Nat.le_refl _)
        have hsm := rbsame_any _ _ G[k] G[k] a a' wr.drew (hL.below hbd) (hL'.below hbd)
        rw [baEq_self] at hsm
        have HS := Lib.hid hsm
        clear hL hL' hsm hbd
        generalize G[k] = x at *
        unfold baArg baCells at HS
        obtain ⟨xk, xs, xt, xn, xv, xa, xb, xo, xc, xr, xf⟩ := x
        obtain ⟨apo, aco, apc, acc, apr, acr, apf, acf⟩ := a
        obtain ⟨bpo, bco, bpc, bcc, bpr, bcr, bpf, bcf⟩ := a'
        dsimp only at *
        generalize xo.length = no at *
        generalize xc.length = nc at *
        generalize xr.length = nr at *
        generalize xf.length = nf at *
        have hlti : (k : Int) < (N : Int) := by omega
        go_upto_region 9 with (fail)
        go_still_tail 8, (by kernel_rfl)
        change wpList _ _ _ _ _ wr.drew
        have Hbd : Hid (Below w3.heap.size w3 wr.drew) := Lib.hid (Hb.out.trans (below_drewG (w := wr) (Below.refl _ _) hbs))
        generalize wr.drew = w5 at *
        clear q0 q1 q2 q3 q4 q5 q6 q7 q8 q9 q10 e0 e1 e2 e3 e4 e5 e6 e7 e8 e9 e10
        go_wp2_with (go_at_call 13; refine HS.out.mono ?_; rintro e w6 ⟨rfl, hb6⟩; have Hb6 := Lib.hid (Hbd.out.trans (hb6.mono Hbd.out.size)); clear hb6)
        all_goals
          go_roundw
          case rel => exact ⟨k + 1, by omega, by go_num, Hb6.out⟩
          case measure => simp [intOf]; omega
      · obtain rfl : k = N := by omega
        have HB4 := Lib.hid (HB3.out.trans (Hb.out.mono HB3.out.size))
        go_wp2_with fail
        refine (Hk.out _).mono ?_
        rintro e wx ⟨rfl, rfl⟩
        go_wp2_with fail
        refine (Hrk.out _).mono ?_
        rintro e wx ⟨rfl, rfl⟩
        generalize keyI id = ki at *
        generalize keyM id = km at *
        go_wp2_with fail
        refine (HY.out _ Hb.out).mono ?_
        rintro e w7 ⟨p7, d7, rfl, ⟨hy7, -, -⟩, hb⟩
        have Hb7 := Lib.hid (Hb.out.trans (hb.mono Hb.out.size))
        have HB7 := Lib.hid (HB4.out.trans (hb.mono HB4.out.size))
        have Hy7 := Lib.hid hy7
        clear hb hy7
        go_wp2_with fail
        refine (HZ.out _ Hb7.out).mono ?_
        rintro e w8 ⟨p8, d8, rfl, ⟨hy8, -, -⟩, hb⟩
        have HB8 := Lib.hid (HB7.out.trans (hb.mono HB7.out.size))
        have Heq := Lib.hid (eqB_true (c := d7) (d := d8) (Hy7.out.below hb) hy8)
        clear hb hy8 Hy7
        generalize (bytesB G).length = nbz at *
        go_wp2_with fail
        refine Heq.out.mono ?_
        rintro e wx ⟨rfl, rfl⟩
        go_wp2_with fail
        refine (Haw.out _).mono ?_
        rintro e wz ⟨rfl, hb⟩
        have HBz := Lib.hid (HB8.out.trans (hb.mono HB8.out.size))
        clear hb
        go_wp2_with fail
        go_ret
        exact ⟨rfl, HBz.out⟩

theorem addB_app (b : List UInt8) (x : BaV) : addB b x = b ++ addB [] x := by
  unfold addB; split <;> simp
theorem greet_end (l : List PaV) (id : Int) : ∃ X, bytesB (greetV l id) = X ++ bytesB [idleB] := by
  refine ⟨bytesB ((baZero 82 :: l.map setV) ++ [keyB id]), ?_⟩
  unfold bytesB greetV
  rw [show ([keyB id, idleB] : List BaV) = [keyB id] ++ [idleB] from rfl, ← List.append_assoc, List.foldl_append]
  show addB _ idleB = _ ++ addB [] idleB
  exact addB_app _ _
theorem len6 : (bytesB [idleB]).length = 6 := by decide +kernel
theorem idle_short : ShortB idleB := greet_short (l := []) 0 near_nil idleB (by unfold greetV; simp)

set_option maxRecDepth 100000 in
set_option maxHeartbeats 4000000 in
theorem greetEnds_walk (p : Option Addr) (n c : Nat) (l : List PaV) (id : Int) (w0 : World) (h : SliceS 2 PaS (fun k => k < w0.heap.size) w0 [.slice p n c] l) :
    Calls Try.prog 4 #[.slice p n c, .int .i64 id] w0 fun e w' => e = .returned (.bool true) ∧ Below w0.heap.size w0 w' := by
  obtain ⟨rfl, hlc, hcm⟩ := h.len
  unfold maxLen at hcm
  have Haw := Lib.hid (fun w => grAwake_any w)
  have Hl := Lib.hid h
  have HF := Lib.hid (gfar_any _ _ _ _ l w0 h)
  have Hk := Lib.hid (fun w => keys_any id w)
  have hki := keyI_bd id
  have hkm := keyM_bd id
  clear h
  go_enter Try.func4, Try.ntmps4
  go_wp2_with fail
  refine HF.out.mono ?_
  rintro e w1 ⟨bf, rfl, hn, hb⟩
  have HB1 := Lib.hid hb
  have Hl1 := Lib.hid (Hl.out.below PaS.still hb)
  have Hn := Lib.hid hn
  clear hb hn Hl HF
  cases bf with
  | true =>
    go_wp2_with fail
    refine (Haw.out _).mono ?_
    rintro e wz ⟨rfl, hb⟩
    have HBz := Lib.hid (HB1.out.trans (hb.mono HB1.out.size))
    clear hb
    go_wp2_with fail
    go_ret
    exact ⟨rfl, HBz.out⟩
  | false =>
    have hnear := Hn.out rfl
    have Hsh := Lib.hid (greet_short id hnear)
    have hl40 : l.length ≤ 40 := hnear.1
    have hln : (bytesB (greetV l id)).length ≤ 100005 * (greetV l id).length := by
      have := bytP_len (greetV l id) (fun x h => (Hsh.out x h).l) _ (Nat.le_refl _)
      rw [bytP_all] at this
      exact this
    rw [greet_len] at hln
    clear Hn hnear
    have HY := Lib.hid (gbytes_any _ p _ c l id w1 Hl1.out (by omega) Hsh.out)
    obtain ⟨X, hX⟩ := greet_end l id
    have HX := Lib.hid hX
    clear hX Hl1 Hsh
    generalize bytesB (greetV l id) = G at *
    go_wp2_with fail
    refine HY.out.mono ?_
    rintro e w2 ⟨p2, d2, rfl, ⟨hy2, hq1, hq2⟩, hb⟩
    have HB2 := Lib.hid (HB1.out.trans (hb.mono HB1.out.size))
    have Hy2 := Lib.hid hy2
    have Hlc := Lib.hid (And.intro hq1 hq2)
    clear hb hy2 HY hq1 hq2
    have Hal := Lib.hid ((Below.refl w2.heap.size w2).alloc (Nat.le_refl _) (.cells #[.int .u8 90, .int .u8 73, .string ⟨#[]⟩, .string ⟨#[]⟩, .string ⟨#[]⟩, .int .i64 0, .int .i64 0, .slice none 0 0, .slice none 0 0, .slice none 0 0, .slice none 0 0] 33))
    have HI := Lib.hid (bbytes_any _ _ _ 1 [idleB] _ (SliceS.new1 (S := fun _ => False) BaS.still w2 33 #[.int .u8 90, .int .u8 73, .string ⟨#[]⟩, .string ⟨#[]⟩, .string ⟨#[]⟩, .int .i64 0, .int .i64 0, .slice none 0 0, .slice none 0 0, .slice none 0 0, .slice none 0 0] idleB (idle_ba _ _) rfl (S' := fun _ => True) (fun _ _ h => h.elim) trivial) (by show 1 ≤ 1000; omega) (fun x hx => by rw [List.mem_singleton] at hx; subst hx; exact idle_short))
    have H6 := Lib.hid len6
    generalize bytesB [idleB] = Z at *
    go_wp2_with fail
    generalize w2.alloc (.cells #[.int .u8 90, .int .u8 73, .string ⟨#[]⟩, .string ⟨#[]⟩, .string ⟨#[]⟩, .int .i64 0, .int .i64 0, .slice none 0 0, .slice none 0 0, .slice none 0 0, .slice none 0 0] 33) = wa at *
    refine HI.out.mono ?_
    rintro e w3 ⟨v3, rfl, ho3, hb⟩
    obtain ⟨p3, c3, hv3, -, -, hy3, -⟩ := ho3.slice
    subst hv3
    have HB3 := Lib.hid (HB2.out.trans ((Hal.out.trans (hb.mono Hal.out.size)).mono HB2.out.size))
    have hy4 := Hy2.out.below (Hal.out.trans (hb.mono Hal.out.size))
    rw [HX.out] at hy4
    have hd2 : G.length ≤ d2 := Hlc.out.1
    have hd3 : d2 ≤ maxLen := Hlc.out.2
    have Hs := Lib.hid (hasSuffix_at p2 p3 X Z G.length d2 c3 w3 (by rw [HX.out]) (by rw [H6.out]; omega) hd2 hd3 hy4 hy3)
    rw [H6.out] at Hs ⊢
    generalize G.length = gl at *
    clear hy4 hy3 ho3 hb HI
    generalize keyI id = ki at *
    generalize keyM id = km at *
    obtain ⟨k1, k2⟩ := hki
    obtain ⟨k3, k4⟩ := hkm
    have k5 : (0 : Int) ≤ ki := by omega
    have k6 : ki < 2147483648 := by omega
    clear k1 k2
    go_wp2_with fail
    refine Hs.out.mono ?_
    rintro e wx ⟨rfl, rfl⟩
    go_wp2_with fail
    refine (Hk.out _).mono ?_
    rintro e wx ⟨rfl, rfl⟩
    go_wp2_with fail
    refine (Haw.out _).mono ?_
    rintro e wz ⟨rfl, hb⟩
    have HBz := Lib.hid (HB3.out.trans (hb.mono HB3.out.size))
    clear hb
    go_wp2_with fail
    go_ret
    exact ⟨rfl, HBz.out⟩

end Go.Proofs.Ythhebfknikfleaa
