/-
  First messages (layer 5): the walk of HelloBack.
-/
import Derived.Test.YtjfhpafaopeogaaHeO
namespace Go.Proofs.Ytjfhpafaopeogaa
open Go.RowKit
set_option linter.unusedVariables false
set_option linter.unusedSimpArgs false

theorem may_bytes {h : HelV} (hm : mayV h = true) : (parsB h.params).length ≤ (bodyV h).length := by
  obtain ⟨code, process, secret, params⟩ := h
  have hc := may_code hm
  unfold mayV kindV noneV at hm
  simp only [Bool.and_eq_true, Bool.not_eq_true'] at hm
  obtain ⟨hf, hk⟩ := hm
  dsimp only at hc hf hk
  rcases hc with rfl | rfl | rfl
  · unfold bodyV
    dsimp only
    rw [if_neg (by omega), if_pos rfl]
    simp only [List.length_append]
    omega
  · simp at hk
    obtain ⟨rfl, _⟩ := hk
    simp [parsB]
  · simp at hk
    obtain ⟨_, rfl⟩ := hk
    simp [parsB]

set_option maxRecDepth 100000 in
set_option maxHeartbeats 4000000 in
theorem helloBack_walk (h : HelV) (p : Option Addr) (c : Nat) (q : Option Addr) (l : List UInt8) (d : Nat) (w : World) (hs : SliceS 2 PrS (fun k => k < w.heap.size) w [.slice p h.params.length c] h.params) (hx : BytesS (fun k => k < w.heap.size) w [.slice q l.length d] l) :
    Calls Try.prog 13 #[helArg h p c, .slice q l.length d] w fun e w' => e = .returned (.bool true) ∧ Below w.heap.size w w' := by
  obtain ⟨hb, hs1, hw⟩ := hel_box hs
  obtain ⟨-, hld, hdm, hin⟩ := hx.parts
  unfold maxLen at hdm
  have Haw := Lib.hid (fun w0 => heAwake w0)
  have H1 : Hid (HeB w (w.alloc (.cells (helCells h p c) 94)) w.heap.size h p c q q l) := Lib.hid ⟨hb, hs1.weak PrS.still (fun _ _ _ => trivial), hin.below hw, hin.below hw, hw⟩
  have Hf := Lib.hid (fun (w0 : World) hs => few_any (fun _ => True) h p c w0 hs)
  have Hbd := Lib.hid (fun (hf : FewH h.params) (w0 : World) hs => build_any (fun _ => True) h p c w0 hs hf.bytes.1)
  have Hmb : Hid (mayV h = true → parseV (bodyV h) = (h, 0)) := Lib.hid parse_build
  have Hbl : Hid (FewH h.params → mayV h = true → (bodyV h).length ≤ 100000) := Lib.hid (fun hf hm => by
    have h1 := hf.bytes.1
    unfold bodyV
    split
    · have a1 := putV_len4 [] h.code 4
      have a2 := putV_len4 (putV [] h.code 4) h.process 4
      have a3 := putV_len4 (putV (putV [] h.code 4) h.process 4) h.secret 4
      simp only [List.length_nil] at a1
      omega
    · have a1 := putV_len4 [] h.code 4
      simp only [List.length_nil] at a1
      split
      · have hp : (parsB h.params).length ≤ 402 * 40 := parsB_few hf
        simp only [List.length_append, List.length_cons, List.length_nil]
        omega
      · omega)
  have Hsa := Lib.hid (fun (p9 : Option Addr) (c9 : Nat) (w0 : World) h1 h2 => helSame_any (fun _ => True) (fun _ => True) h h p9 p c9 c w0 h1 h2)
  rw [helEq_self] at Hsa
  have Hby : Hid (buildV h = if mayV h = true then (bodyV h, 0) else ([], 1)) := Lib.hid rfl
  unfold BuildR at Hbd
  clear hs hs1 hb hw hx hin
  obtain ⟨hc0, hc1, hc2, L⟩ := h
  unfold helArg at *
  unfold helCells at *
  dsimp only at *
  go_enter Try.func13, Try.ntmps13
  go_upto_region 1 with (fail)
  have hlt := H1.out.b.lt
  generalize w.alloc (.cells #[.int .i64 hc0, .int .i64 hc1, .int .i64 hc2, .slice p L.length c] 94) = w1 at *
  have hcc : ∀ i, w1.cell? ⟨w.heap.size, i, none⟩ = (#[.int .i64 hc0, .int .i64 hc1, .int .i64 hc2, .slice p L.length c] : Array Value)[i]? := H1.out.b.cell
  go_wp2_with fail
  refine (Hf.out w1 H1.out.s).mono ?_
  rintro e w2 ⟨b, rfl, hfew, hb2⟩
  have HA := Lib.hid (H1.out.step hb2)
  clear hb2 hcc Hf
  cases b with
  | false =>
    clear hfew
    go_wp2_with (first | (go_at_call 46; refine (Haw.out _).mono ?_; rintro e wz ⟨rfl, hb⟩; have HZ := Lib.hid (HA.out.step hb); clear hb))
    go_ret
    exact ⟨rfl, HZ.out.bel⟩
  | true =>
    have Hfew := Lib.hid (hfew rfl)
    clear hfew
    by_cases hbig : 2000 < l.length
    · go_wp2_with (first | (go_at_call 46; refine (Haw.out _).mono ?_; rintro e wz ⟨rfl, hb⟩; have HZ := Lib.hid (HA.out.step hb); clear hb))
      go_ret
      exact ⟨rfl, HZ.out.bel⟩
    · have hl : l.length ≤ 2000 := by omega
      have hcc : ∀ i, w2.cell? ⟨w.heap.size, i, none⟩ = (#[.int .i64 hc0, .int .i64 hc1, .int .i64 hc2, .slice p L.length c] : Array Value)[i]? := HA.out.b.cell
      have Hb2 := Lib.hid (Hbd.out Hfew.out w2 HA.out.s)
      cases hm : mayV ⟨hc0, hc1, hc2, L⟩ with
      | false =>
        rw [Hby.out, hm] at Hb2
        simp only [Bool.false_eq_true, if_false] at Hb2
        clear hm Hmb Hbl Hby Hsa Hbd
        go_wp2_with fail
        refine Hb2.out.mono ?_
        rintro e w3 ⟨v3, rfl, ho3, hb3⟩
        have HB := Lib.hid (HA.out.step hb3)
        have Hz3 := Lib.hid hb3.size
        clear ho3 hb3 Hb2 hcc
        have Hpl := Lib.hid (parse_any q l d w3 (by omega) HB.out.x)
        unfold ParseR at Hpl
        rcases build_parse l with ⟨he0, hmx, hbx⟩ | ⟨he0, hz0⟩
        · have hsmall : (parsB (parseV l).1.params).length ≤ 100000 := by have := may_bytes hmx; rw [hbx] at this; omega
          have hbv : buildV (parseV l).1 = (l, 0) := by unfold buildV; rw [if_pos hmx, hbx]
          have Hbd := Lib.hid (fun (p9 : Option Addr) (c9 : Nat) (w0 : World) hs => build_any (fun k => w3.heap.size ≤ k) (parseV l).1 p9 c9 w0 hs hsmall)
          unfold BuildR at Hbd
          rw [hbv] at Hbd
          rw [he0] at Hpl
          clear hbx hmx he0 hbv hsmall
          generalize (parseV l).1 = x at *
          obtain ⟨xc, xp, xs, xL⟩ := x
          unfold helArg at Hpl Hbd
          unfold helCells at Hpl Hbd
          dsimp only at Hpl Hbd
          go_wp2_with fail
          refine Hpl.out.mono ?_
          rintro e wp ⟨pp, cp, rfl, hsp, hbp⟩
          have hall : Below wp.heap.size wp (wp.alloc (.cells #[.int .i64 xc, .int .i64 xp, .int .i64 xs, .slice pp xL.length cp] 94)) := (Below.refl _ _).alloc (Nat.le_refl _) _
          have HJ := Lib.hid ((HB.out.step hbp).step hall)
          have Hcl := Lib.hid (Hbd.out pp cp _ (hsp.below PrS.still hall))
          clear hsp hbp hall Hbd Hpl HB
          go_wp2_with fail
          refine Hcl.out.mono ?_
          rintro e wq ⟨vq, rfl, hoq, hbq⟩
          obtain ⟨pq, cq, hvq, -, -, qq, -⟩ := OwnBR.slice hoq
          subst hvq
          have HK := Lib.hid (HJ.out.step hbq)
          have Hey := Lib.hid (equal_any pq q l l cq d wq qq HK.out.x)
          rw [beq_self_eq_true] at Hey
          clear hoq qq hbq Hcl HJ
          go_wp2_with (first | (go_at_call 55; refine Hey.out.mono ?_; rintro e w5 ⟨rfl, rfl⟩) | (go_at_call 46; refine (Haw.out _).mono ?_; rintro e wz ⟨rfl, hb⟩; have HZ := Lib.hid (HK.out.step hb); clear hb))
          go_ret
          exact ⟨rfl, HZ.out.bel⟩
        · rw [hz0] at Hpl
          have Hsz := Lib.hid (fun (p9 : Option Addr) (c9 : Nat) (w0 : World) h1 h2 => helSame_any (fun k => w3.heap.size ≤ k) (fun k => w3.heap.size ≤ k) helZero helZero p9 none c9 0 w0 h1 h2)
          rw [helEq_self] at Hsz
          generalize (parseV l).2 = er at *
          have hei : (er == 0) = false := by simpa using he0
          clear hz0
          unfold helArg at Hpl Hsz
          unfold helCells helZero at Hpl Hsz
          dsimp only [List.length_nil] at Hpl Hsz
          go_wp2_with fail
          refine Hpl.out.mono ?_
          rintro e wp ⟨pp, cp, rfl, hsp, hbp⟩
          have hall : Below wp.heap.size wp (wp.alloc (.cells #[.int .i64 0, .int .i64 0, .int .i64 0, .slice pp 0 cp] 94)) := (Below.refl _ _).alloc (Nat.le_refl _) _
          have HJ := Lib.hid ((HB.out.step hbp).step hall)
          have Hcl := Lib.hid (Hsz.out pp cp _ (hsp.below PrS.still hall) (SliceS.empty none 0 (by simp [maxLen])))
          clear hsp hbp hall Hsz Hpl HB
          go_wp2_with (first | (go_at_call 49; refine Hcl.out.mono ?_; rintro e wq ⟨rfl, hb⟩; have HK := Lib.hid (HJ.out.step hb); clear hb) | (go_at_call 46; refine (Haw.out _).mono ?_; rintro e wz ⟨rfl, hb⟩; have HZ := Lib.hid (HK.out.step hb); clear hb))
          go_ret
          exact ⟨rfl, HZ.out.bel⟩
      | true =>
        rw [Hby.out, hm] at Hb2
        simp only [if_true] at Hb2
        have Hpb := Lib.hid (Hmb.out hm)
        have Hln := Lib.hid (Hbl.out Hfew.out hm)
        generalize bodyV ⟨hc0, hc1, hc2, L⟩ = B at *
        clear hm Hmb Hbl Hby Hbd
        go_wp2_with fail
        refine Hb2.out.mono ?_
        rintro e w3 ⟨v3, rfl, ho3, hb3⟩
        obtain ⟨p3, c3, hv3, -, -, q3, -⟩ := OwnBR.slice ho3
        subst hv3
        have HB := Lib.hid (HA.out.step hb3)
        have Hp3 := Lib.hid (parse_any p3 B c3 w3 Hln.out q3)
        unfold ParseR at Hp3
        rw [Hpb.out] at Hp3
        unfold helArg at Hp3
        unfold helCells at Hp3
        dsimp only at Hp3
        generalize B.length = nB at *
        clear ho3 hb3 Hb2 hcc q3
        go_wp2_with fail
        refine Hp3.out.mono ?_
        rintro e w4 ⟨p4, c4, rfl, hs4, hb4⟩
        have hal4 : Below w4.heap.size w4 (w4.alloc (.cells #[.int .i64 hc0, .int .i64 hc1, .int .i64 hc2, .slice p4 L.length c4] 94)) := (Below.refl _ _).alloc (Nat.le_refl _) _
        have HC := Lib.hid ((HB.out.step hb4).step hal4)
        have Hs5 := Lib.hid (Hsa.out p4 c4 _ ((hs4.below PrS.still hal4).weak PrS.still (fun _ _ _ => trivial)) HC.out.s)
        have Hk5 := Lib.hid (Blk.new w4 94 #[.int .i64 hc0, .int .i64 hc1, .int .i64 hc2, .slice p4 L.length c4])
        clear hs4 hb4 hal4 Hp3 HB
        go_upto_region 6 with fail
        generalize w4.alloc (.cells #[.int .i64 hc0, .int .i64 hc1, .int .i64 hc2, .slice p4 L.length c4] 94) = w5 at *
        have hcx : ∀ i, w5.cell? ⟨w.heap.size, i, none⟩ = (#[.int .i64 hc0, .int .i64 hc1, .int .i64 hc2, .slice p L.length c] : Array Value)[i]? := HC.out.b.cell
        have hcy : ∀ i, w5.cell? ⟨w4.heap.size, i, none⟩ = (#[.int .i64 hc0, .int .i64 hc1, .int .i64 hc2, .slice p4 L.length c4] : Array Value)[i]? := Hk5.out.cell
        go_wp2_with fail
        refine Hs5.out.mono ?_
        rintro e w6 ⟨rfl, hb6⟩
        have HD := Lib.hid (HC.out.step hb6)
        clear hb6 hcx hcy Hs5 Hk5 HC
        have Hpl := Lib.hid (parse_any q l d w6 (by omega) HD.out.x)
        unfold ParseR at Hpl
        rcases build_parse l with ⟨he0, hmx, hbx⟩ | ⟨he0, hz0⟩
        · have hsmall : (parsB (parseV l).1.params).length ≤ 100000 := by have := may_bytes hmx; rw [hbx] at this; omega
          have hbv : buildV (parseV l).1 = (l, 0) := by unfold buildV; rw [if_pos hmx, hbx]
          have Hbd := Lib.hid (fun (p9 : Option Addr) (c9 : Nat) (w0 : World) hs => build_any (fun k => w6.heap.size ≤ k) (parseV l).1 p9 c9 w0 hs hsmall)
          unfold BuildR at Hbd
          rw [hbv] at Hbd
          rw [he0] at Hpl
          clear hbx hmx he0 hbv hsmall
          generalize (parseV l).1 = x at *
          obtain ⟨xc, xp, xs, xL⟩ := x
          unfold helArg at Hpl Hbd
          unfold helCells at Hpl Hbd
          dsimp only at Hpl Hbd
          go_wp2_with fail
          refine Hpl.out.mono ?_
          rintro e wp ⟨pp, cp, rfl, hsp, hbp⟩
          have hall : Below wp.heap.size wp (wp.alloc (.cells #[.int .i64 xc, .int .i64 xp, .int .i64 xs, .slice pp xL.length cp] 94)) := (Below.refl _ _).alloc (Nat.le_refl _) _
          have HJ := Lib.hid ((HD.out.step hbp).step hall)
          have Hcl := Lib.hid (Hbd.out pp cp _ (hsp.below PrS.still hall))
          clear hsp hbp hall Hbd Hpl HD
          go_wp2_with fail
          refine Hcl.out.mono ?_
          rintro e wq ⟨vq, rfl, hoq, hbq⟩
          obtain ⟨pq, cq, hvq, -, -, qq, -⟩ := OwnBR.slice hoq
          subst hvq
          have HK := Lib.hid (HJ.out.step hbq)
          have Hey := Lib.hid (equal_any pq q l l cq d wq qq HK.out.x)
          rw [beq_self_eq_true] at Hey
          clear hoq qq hbq Hcl HJ
          go_wp2_with (first | (go_at_call 55; refine Hey.out.mono ?_; rintro e w5 ⟨rfl, rfl⟩) | (go_at_call 46; refine (Haw.out _).mono ?_; rintro e wz ⟨rfl, hb⟩; have HZ := Lib.hid (HK.out.step hb); clear hb))
          go_ret
          exact ⟨rfl, HZ.out.bel⟩
        · rw [hz0] at Hpl
          have Hsz := Lib.hid (fun (p9 : Option Addr) (c9 : Nat) (w0 : World) h1 h2 => helSame_any (fun k => w6.heap.size ≤ k) (fun k => w6.heap.size ≤ k) helZero helZero p9 none c9 0 w0 h1 h2)
          rw [helEq_self] at Hsz
          generalize (parseV l).2 = er at *
          have hei : (er == 0) = false := by simpa using he0
          clear hz0
          unfold helArg at Hpl Hsz
          unfold helCells helZero at Hpl Hsz
          dsimp only [List.length_nil] at Hpl Hsz
          go_wp2_with fail
          refine Hpl.out.mono ?_
          rintro e wp ⟨pp, cp, rfl, hsp, hbp⟩
          have hall : Below wp.heap.size wp (wp.alloc (.cells #[.int .i64 0, .int .i64 0, .int .i64 0, .slice pp 0 cp] 94)) := (Below.refl _ _).alloc (Nat.le_refl _) _
          have HJ := Lib.hid ((HD.out.step hbp).step hall)
          have Hcl := Lib.hid (Hsz.out pp cp _ (hsp.below PrS.still hall) (SliceS.empty none 0 (by simp [maxLen])))
          clear hsp hbp hall Hsz Hpl HD
          go_wp2_with (first | (go_at_call 49; refine Hcl.out.mono ?_; rintro e wq ⟨rfl, hb⟩; have HK := Lib.hid (HJ.out.step hb); clear hb) | (go_at_call 46; refine (Haw.out _).mono ?_; rintro e wz ⟨rfl, hb⟩; have HZ := Lib.hid (HK.out.step hb); clear hb))
          go_ret
          exact ⟨rfl, HZ.out.bel⟩

theorem helloBuilds_read (s : Array Value) (y : HelV) (w : World) (h : HelS (fun k => k < w.heap.size) w s.toList y) : Calls Try.prog 12 #[.agg s] w fun e w' => e = .returned (.bool true) ∧ Below w.heap.size w w' := by
  obtain ⟨p, c, hs, hr⟩ := h
  have e : s = helCells y p c := Array.toList_inj.1 hs
  subst e
  exact helloBuilds_walk y p c w hr

theorem helloBack_read (s : Array Value) (y : HelV) (q : Option Addr) (l : List UInt8) (d : Nat) (w : World) (h : HelS (fun k => k < w.heap.size) w s.toList y) (hx : BytesS (fun k => k < w.heap.size) w [.slice q l.length d] l) : Calls Try.prog 13 #[.agg s, .slice q l.length d] w fun e w' => e = .returned (.bool true) ∧ Below w.heap.size w w' := by
  obtain ⟨p, c, hs, hr⟩ := h
  have e : s = helCells y p c := Array.toList_inj.1 hs
  subst e
  exact helloBack_walk y p c q l d w hr hx

end Go.Proofs.Ytjfhpafaopeogaa
