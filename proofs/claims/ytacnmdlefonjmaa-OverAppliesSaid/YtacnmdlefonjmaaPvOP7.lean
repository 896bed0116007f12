/-
  Ground: OvL, OvLa.
-/
import Derived.Test.YtacnmdlefonjmaaPvOP6
import Derived.Deep.RegionHeld3
/-
  The walks of OverTells, OverNobody, OverLater, OverApplies (layer 16).
-/
namespace Go.Proofs.Ytacnmdlefonjmaa
open Go.RowKit Go.Maps
set_option linter.unusedVariables false
set_option linter.unusedSimpArgs false

theorem u8_nat {a : Int} (h : (Lit.int .u8 a).wf = true) : ∃ m : Nat, a = (m : Int) ∧ m < 256 := by
  have := byte_of_wf h
  exact ⟨a.toNat, by omega, by omega⟩
theorem few_len {L : List EnV} (h1 : L.length ≤ 30) (h2 : ∀ x ∈ L, EnFew x) : (opsE L).length ≤ 30000 ∧ ∀ x ∈ L, EnSmall x := by
  refine ⟨?_, fun x hx => (h2 x hx).small⟩
  have : ∀ M : List EnV, (∀ x ∈ M, EnFew x) → (opsE M).length ≤ M.length * 10 := by
    intro M
    induction M with
    | nil => intro _; simp [opsE]
    | cons x M ih =>
      intro h
      have h1 := ih (fun y hy => h y (List.mem_cons_of_mem _ hy))
      have h2 := (h x List.mem_cons_self).1
      unfold opsE at h1 ⊢
      rw [List.map_cons, List.flatten_cons, List.length_append, List.length_cons, Nat.succ_mul]
      omega
  have := this L h2
  omega
theorem BoQ.tbP {B : Nat} {w : World} {tb mb xb most : Nat} {T : TbV} (h : BoQ B w tb mb xb most T) : TbP B w (some ⟨tb, 0, none⟩) T := by
  obtain ⟨v, L, h1, _⟩ := h
  exact .inr ⟨_, _, _, rfl, h1⟩
theorem BoQ.xbP {B : Nat} {w : World} {tb mb xb most : Nat} {T : TbV} (h : BoQ B w tb mb xb most T) : XbP B w (some ⟨xb, 0, none⟩) T := by
  obtain ⟨v, L, h1, h2, _⟩ := h
  exact .inr ⟨_, _, _, _, rfl, h2⟩
theorem idsL_T (L : List EnV) : idsL L = idsT L := by
  unfold idsT opsE
  induction L with
  | nil => rfl
  | cons x L ih =>
    rw [List.map_cons, List.flatten_cons, List.filter_append, List.map_append, ← ih]
    rfl
/-- The program's and the document's answers, of tables that read the same. -/
structure Same16 (S : Nat → Prop) (px pt : Option Addr) (p : Option Addr) (c : Nat) (l : List EnV) (s : ByteArray) (T : TbV) (w : World) : Prop where
  look : ∀ W, Below w.heap.size w W → Calls Try.prog 11 #[.pointer pt, .slice p l.length c, .string s] W fun e w' => e = .returned (.tuple #[.int .i64 ((viewT T l).getI (nmB s)), .bool ((viewT T l).getB (nmB s))]) ∧ Below W.heap.size W w'
  rlook : ∀ W, Below w.heap.size w W → Calls Try.prog 12 #[.pointer px, .slice p l.length c, .string s] W fun e w' => e = .returned (.tuple #[.int .i64 ((viewT T l).getI (nmB s)), .bool ((viewT T l).getB (nmB s))]) ∧ Below W.heap.size W w'
  many : ∀ W, Below w.heap.size w W → Calls Try.prog 13 #[.pointer pt, .slice p l.length c] W fun e w' => e = .returned (.int .i64 ((viewT T l).n : Nat)) ∧ Below W.heap.size W w'
  rmany : ∀ W, Below w.heap.size w W → Calls Try.prog 14 #[.pointer px, .slice p l.length c] W fun e w' => e = .returned (.int .i64 ((viewT T l).n : Nat)) ∧ Below W.heap.size W w'
  ids : ∀ W, Below w.heap.size w W → Calls Try.prog 16 #[.slice p l.length c] W fun e w' => ∃ v, e = .returned v ∧ OwnI W.heap.size w' v (idsT l) ∧ Below W.heap.size W w'
  rids : ∀ W, Below w.heap.size w W → Calls Try.prog 17 #[.slice p l.length c] W fun e w' => ∃ v, e = .returned v ∧ OwnI W.heap.size w' v (idsT l) ∧ Below W.heap.size W w'
theorem same16 {B B' : Nat} {S : Nat → Prop} {px pt : Option Addr} {p : Option Addr} {n c : Nat} {l : List EnV} {s : ByteArray} {T : TbV} {w : World} (ht : TbP B w pt T) (hx : XbP B' w px T) (hn : T.n ≤ 50000) (h : SliceS 8 EnS S w [.slice p n c] l) (h1 : l.length ≤ 30) (h2 : ∀ x ∈ l, EnFew x) (hok : ∀ o ∈ opsE l, OkOp o) (hs : s.size ≤ maxLen) : Same16 S px pt p c l s T w := by
  obtain ⟨rfl, _⟩ := h.len
  obtain ⟨h3, h4⟩ := few_len h1 h2
  refine ⟨fun W hb => ?_, fun W hb => ?_, fun W hb => ?_, fun W hb => ?_, fun W hb => ?_, fun W hb => ?_⟩
  · exact lookup_any B S pt T p _ c l s W (ht.still hb) (h.below EnS.still hb) h4 h1 hs
  · exact rLookup_any B' S px T p _ c l s W (hx.still hb) hn (h.below EnS.still hb) h4 h1
  · exact many_any B S pt T p _ c l W (ht.still hb) hn (h.below EnS.still hb) h4 h1 hok h3
  · exact rMany_any B' S px T p _ c l W (hx.still hb) hn (h.below EnS.still hb) h4 h1
  · exact pids_any S p _ c l W (h.below EnS.still hb) h4 h1 h3
  · have := ids_any S p _ c l W (h.below EnS.still hb) h4 (by omega)
    rwa [idsL_T] at this

set_option maxRecDepth 100000 in
set_option maxHeartbeats 8000000 in
theorem overTells_walk (a0 : Int) (w0 : (Lit.int .u8 a0).wf = true) (p1 : Option Addr) (n1 c1 : Nat) (y1 : List OpV) (p2 : Option Addr) (n2 c2 : Nat) (y2 : List EnV) (a3 : ByteArray) (w : World) (r1 : SliceS 3 OpW (fun k => k < w.heap.size) w [.slice p1 n1 c1] y1) (r2 : SliceS 8 EnW (fun k => k < w.heap.size) w [.slice p2 n2 c2] y2) :
    Calls Try.prog 3 #[.int .u8 a0, .slice p1 n1 c1, .slice p2 n2 c2, .string a3] w fun e w' => e = .returned (.bool true) ∧ Below w.heap.size w w' := by
  obtain ⟨m, rfl, hm⟩ := u8_nat w0
  obtain ⟨h1, hok1⟩ := opsW_plain r1
  obtain ⟨h2, hok2⟩ := ensW_plain r2
  obtain ⟨rfl, hlc, hcm⟩ := h2.len
  have HB := Lib.hid (both_any _ m hm p1 n1 c1 y1 w h1 hok1)
  have H2 := Lib.hid h2
  have Hok2 := Lib.hid hok2
  have Haw := Lib.hid ovAwake
  clear r1 r2 h1 hok1 h2 hok2 w0
  go_enter Try.func3, Try.ntmps3
  go_wp2_with fail
  refine HB.out.mono ?_
  rintro e w1 ⟨tb, mb, xb, T, rfl, hq, hTn, hb1⟩
  have Hq := Lib.hid hq
  have Hb1 := Lib.hid hb1
  have HE := Lib.hid (entries_any _ p2 _ c2 y2 30 w1 (H2.out.below EnS.still hb1))
  clear hq hb1 HB
  go_wp2_with fail
  refine HE.out.mono ?_
  rintro e w2 ⟨b, rfl, hfew, hb2⟩
  have Hb2 := Lib.hid (Hb1.out.trans (hb2.mono Hb1.out.size))
  have Hq2 := Lib.hid (Hq.out.still hb2)
  have Hfew := Lib.hid hfew
  clear hfew hb2 HE Hb1 Hq
  cases b with
  | false =>
    clear Hfew
    go_wp2_with fail
    refine (Haw.out _).mono ?_
    rintro e w3 ⟨rfl, hb3⟩
    have Hb3 := Lib.hid (Hb2.out.trans (hb3.mono Hb2.out.size))
    clear hb3
    go_wp2_with fail
    go_ret
    exact ⟨rfl, Hb3.out⟩
  | true =>
    by_cases hnm : (300 : Int) < ((a3.size : Nat) : Int)
    · have hd : decide ((300 : Int) < ((a3.size : Nat) : Int)) = true := by simpa using hnm
      clear Hfew
      go_wp2_with fail
      refine (Haw.out _).mono ?_
      rintro e w3 ⟨rfl, hb3⟩
      have Hb3 := Lib.hid (Hb2.out.trans (hb3.mono Hb2.out.size))
      clear hb3
      go_wp2_with fail
      go_ret
      exact ⟨rfl, Hb3.out⟩
    · have hd : decide ((300 : Int) < ((a3.size : Nat) : Int)) = false := by simpa using hnm
      have HS := Lib.hid (same16 (s := a3) Hq2.out.tbP Hq2.out.xbP (by omega) (H2.out.below EnS.still Hb2.out) (Hfew.out rfl).1 (Hfew.out rfl).2 Hok2.out (by unfold maxLen; omega))
      clear Hfew Hq2 hTn
      obtain ⟨s1, s2, s3, s4, s5, s6⟩ := HS.out
      generalize (viewT T y2).getI (nmB a3) = ri at *
      generalize (viewT T y2).getB (nmB a3) = rb at *
      generalize (viewT T y2).n = rn at *
      generalize idsT y2 = rl at *
      have S1 := Lib.hid s1
      have S2 := Lib.hid s2
      have S3 := Lib.hid s3
      have S4 := Lib.hid s4
      have S5 := Lib.hid s5
      have S6 := Lib.hid s6
      clear s1 s2 s3 s4 s5 s6 HS
      go_wp2_with fail
      refine (S1.out _ (Below.refl _ _)).mono ?_
      rintro e w3 ⟨rfl, h3⟩
      have H3 := Lib.hid h3
      clear h3 S1
      go_wp2_with fail
      refine (S2.out _ H3.out).mono ?_
      rintro e w4 ⟨rfl, h4⟩
      have H4 := Lib.hid (H3.out.trans (h4.mono H3.out.size))
      clear h4 S2
      go_wp2_with fail
      refine (S3.out _ H4.out).mono ?_
      rintro e w5 ⟨rfl, h5⟩
      have H5 := Lib.hid (H4.out.trans (h5.mono H4.out.size))
      clear h5 S3
      go_wp2_with fail
      refine (S4.out _ H5.out).mono ?_
      rintro e w6 ⟨rfl, h6⟩
      have H6 := Lib.hid (H5.out.trans (h6.mono H5.out.size))
      clear h6 S4
      go_wp2_with fail
      refine (S5.out _ H6.out).mono ?_
      rintro e w7 ⟨v7, rfl, ho7, h7⟩
      have H7 := Lib.hid (H6.out.trans (h7.mono H6.out.size))
      have Ho7 := Lib.hid ho7
      obtain ⟨p7, c7, rfl, _⟩ := ho7.slice IntU.still (S' := fun _ => True) (fun _ _ _ => trivial) (fun _ _ => trivial)
      clear h7 ho7 S5
      go_wp2_with fail
      refine (S6.out _ H7.out).mono ?_
      rintro e w8 ⟨v8, rfl, ho8, h8⟩
      have H8 := Lib.hid (H7.out.trans (h8.mono H7.out.size))
      have ho7b := Ho7.out.below' IntU.still h8
      obtain ⟨p8, c8, rfl, hs8⟩ := ho8.slice IntU.still (S' := fun _ => True) (fun _ _ _ => trivial) (fun _ _ => trivial)
      obtain ⟨p9, c9, e9, hs7⟩ := ho7b.slice IntU.still (S' := fun _ => True) (fun _ _ _ => trivial) (fun _ _ => trivial)
      simp only [Value.slice.injEq, true_and] at e9
      obtain ⟨rfl, rfl⟩ := e9
      have HQ := Lib.hid (equal_ints _ _ _ _ _ _ _ _ _ _ _ hs7 hs8)
      rw [listEq_refl_ints] at HQ
      clear h8 ho8 ho7b hs7 hs8 Ho7 S6
      go_wp2_with fail
      refine HQ.out.mono ?_
      rintro e w9 ⟨rfl, r, rfl⟩
      have H9 : Hid (Below w.heap.size w (w8.drewN r)) := Lib.hid ((Hb2.out.trans (H8.out.mono Hb2.out.size)).trans ((bel_dN _ r).mono (Nat.le_trans Hb2.out.size H8.out.size)))
      clear HQ
      go_wp2_with fail
      refine (Haw.out _).mono ?_
      rintro e wa ⟨rfl, ha⟩
      have Ha := Lib.hid (H9.out.trans (ha.mono H9.out.size))
      clear ha
      go_wp2_with fail
      go_ret
      exact ⟨rfl, Ha.out⟩

set_option maxRecDepth 100000 in
set_option maxHeartbeats 8000000 in
theorem overNobody_walk (p2 : Option Addr) (n2 c2 : Nat) (y2 : List EnV) (a3 : ByteArray) (id : Int) (w : World) (r2 : SliceS 8 EnW (fun k => k < w.heap.size) w [.slice p2 n2 c2] y2) :
    Calls Try.prog 6 #[.slice p2 n2 c2, .string a3, .int .i64 id] w fun e w' => e = .returned (.bool true) ∧ Below w.heap.size w w' := by
  obtain ⟨h2, hok2⟩ := ensW_plain r2
  obtain ⟨rfl, hlc, hcm⟩ := h2.len
  have H2 := Lib.hid h2
  have Hok2 := Lib.hid hok2
  have Haw := Lib.hid ovAwake
  have HE := Lib.hid (entries_any _ p2 _ c2 y2 30 w h2)
  clear r2 h2 hok2
  go_enter Try.func6, Try.ntmps6
  go_wp2_with fail
  refine HE.out.mono ?_
  rintro e w2 ⟨b, rfl, hfew, hb2⟩
  have Hb2 := Lib.hid hb2
  have Hfew := Lib.hid hfew
  clear hfew hb2 HE
  cases b with
  | false =>
    clear Hfew
    go_wp2_with fail
    refine (Haw.out _).mono ?_
    rintro e w3 ⟨rfl, hb3⟩
    have Hb3 := Lib.hid (Hb2.out.trans (hb3.mono Hb2.out.size))
    clear hb3
    go_wp2_with fail
    go_ret
    exact ⟨rfl, Hb3.out⟩
  | true =>
    by_cases hnm : (300 : Int) < ((a3.size : Nat) : Int)
    · have hd : decide ((300 : Int) < ((a3.size : Nat) : Int)) = true := by simpa using hnm
      clear Hfew
      go_wp2_with fail
      refine (Haw.out _).mono ?_
      rintro e w3 ⟨rfl, hb3⟩
      have Hb3 := Lib.hid (Hb2.out.trans (hb3.mono Hb2.out.size))
      clear hb3
      go_wp2_with fail
      go_ret
      exact ⟨rfl, Hb3.out⟩
    · have hd : decide ((300 : Int) < ((a3.size : Nat) : Int)) = false := by simpa using hnm
      have hz : tbNo.n ≤ 50000 := Nat.zero_le _
      have HS := Lib.hid (same16 (s := a3) (T := tbNo) (B := 0) (B' := 0) (px := none) (pt := none) (.inl ⟨rfl, rfl⟩) (.inl ⟨rfl, rfl⟩) hz (H2.out.below EnS.still Hb2.out) (Hfew.out rfl).1 (Hfew.out rfl).2 Hok2.out (by unfold maxLen; omega))
      clear Hfew hz
      obtain ⟨s1, s2, _, _, _, _⟩ := HS.out
      generalize (viewT tbNo y2).getI (nmB a3) = ri at *
      generalize (viewT tbNo y2).getB (nmB a3) = rb at *
      have S1 := Lib.hid s1
      have S2 := Lib.hid s2
      clear s1 s2 HS
      go_wp2_with fail
      refine (S1.out _ (Below.refl _ _)).mono ?_
      rintro e w3 ⟨rfl, h3⟩
      have H3 := Lib.hid h3
      clear h3 S1
      go_wp2_with fail
      refine (S2.out _ H3.out).mono ?_
      rintro e w4 ⟨rfl, h4⟩
      have H4 := Lib.hid (H3.out.trans (h4.mono H3.out.size))
      have HA := Lib.hid (papply_nil (fun _ => True) _ 1 ⟨true, a3, id⟩ _ (SliceS.new1 (S := fun _ => True) OpS.still w4 55 #[.bool true, .string a3, .int .i64 id] ⟨true, a3, id⟩ rfl rfl (fun _ _ h => h) trivial))
      have HAl := Lib.hid (H4.out.alloc H4.out.size (.cells #[.bool true, .string a3, .int .i64 id] 55))
      clear h4 S2
      dsimp only [if_true] at HA
      go_wp2_with fail
      refine HA.out.mono ?_
      rintro e w5 ⟨rfl, h5⟩
      have H5 := Lib.hid (HAl.out.trans (h5.mono HAl.out.size))
      have HD := Lib.hid (papply_nil (fun _ => True) _ 1 ⟨false, a3, 0⟩ _ (SliceS.new1 (S := fun _ => True) OpS.still w5 55 #[.bool false, .string a3, .int .i64 0] ⟨false, a3, 0⟩ rfl rfl (fun _ _ h => h) trivial))
      have HDl := Lib.hid (H5.out.alloc H5.out.size (.cells #[.bool false, .string a3, .int .i64 0] 55))
      clear h5 HA HAl
      go_wp2_with fail
      refine HD.out.mono ?_
      rintro e w6 ⟨rfl, h6⟩
      have H6 := Lib.hid ((Hb2.out.trans (HDl.out.mono Hb2.out.size)).trans (h6.mono (Nat.le_trans Hb2.out.size HDl.out.size)))
      clear h6 HD HDl
      go_wp2_with fail
      refine (Haw.out _).mono ?_
      rintro e wa ⟨rfl, ha⟩
      have Ha := Lib.hid (H6.out.trans (ha.mono H6.out.size))
      clear ha
      go_wp2_with fail
      go_ret
      exact ⟨rfl, Ha.out⟩

theorem opsT_append (t : TbV) (a b : List OpV) : opsT t (a ++ b) = opsT (opsT t a) b := by
  unfold opsT
  rw [List.foldl_append]

set_option maxRecDepth 100000 in
set_option maxHeartbeats 8000000 in
theorem overLater_walk (p1 : Option Addr) (n1 c1 : Nat) (y1 : List OpV) (p2 : Option Addr) (n2 c2 : Nat) (y2 : List EnV) (a3 : ByteArray) (w : World) (r1 : SliceS 3 OpW (fun k => k < w.heap.size) w [.slice p1 n1 c1] y1) (r2 : SliceS 8 EnW (fun k => k < w.heap.size) w [.slice p2 n2 c2] y2) :
    Calls Try.prog 5 #[.slice p1 n1 c1, .slice p2 n2 c2, .string a3] w fun e w' => e = .returned (.bool true) ∧ Below w.heap.size w w' := by
  obtain ⟨h1, hok1⟩ := opsW_plain r1
  obtain ⟨h2, hok2⟩ := ensW_plain r2
  obtain ⟨rfl, hlc, hcm⟩ := h2.len
  have HB := Lib.hid (both_any _ 29 (by omega) p1 n1 c1 y1 w h1 hok1)
  have H2 := Lib.hid h2
  have Hok2 := Lib.hid hok2
  have Haw := Lib.hid ovAwake
  unfold maxLen at hcm
  clear r1 r2 h1 hok1 h2 hok2
  go_enter Try.func5, Try.ntmps5
  go_wp2_with fail
  refine HB.out.mono ?_
  rintro e w1 ⟨tb, mb, xb, T, rfl, hq, hTn, hb1⟩
  have Hq := Lib.hid hq
  have Hb1 := Lib.hid hb1
  have HE := Lib.hid (entries_any _ p2 _ c2 y2 30 w1 (H2.out.below EnS.still hb1))
  clear hq hb1 HB
  go_wp2_with fail
  refine HE.out.mono ?_
  rintro e w2 ⟨b, rfl, hfew, hb2⟩
  have Hb2 := Lib.hid (Hb1.out.trans (hb2.mono Hb1.out.size))
  have Hq2 := Lib.hid (Hq.out.still hb2)
  have Hfew := Lib.hid hfew
  clear hfew hb2 HE Hb1 Hq
  cases b with
  | false =>
    clear Hfew
    go_wp2_with fail
    refine (Haw.out _).mono ?_
    rintro e w3 ⟨rfl, hb3⟩
    have Hb3 := Lib.hid (Hb2.out.trans (hb3.mono Hb2.out.size))
    clear hb3
    go_wp2_with fail
    go_ret
    exact ⟨rfl, Hb3.out⟩
  | true =>
    by_cases hnm : (300 : Int) < ((a3.size : Nat) : Int)
    · have hd : decide ((300 : Int) < ((a3.size : Nat) : Int)) = true := by simpa using hnm
      clear Hfew
      go_wp2_with fail
      refine (Haw.out _).mono ?_
      rintro e w3 ⟨rfl, hb3⟩
      have Hb3 := Lib.hid (Hb2.out.trans (hb3.mono Hb2.out.size))
      clear hb3
      go_wp2_with fail
      go_ret
      exact ⟨rfl, Hb3.out⟩
    · have hd : decide ((300 : Int) < ((a3.size : Nat) : Int)) = false := by simpa using hnm
      have hszz : a3.size ≤ maxLen := by unfold maxLen; omega
      have HS := Lib.hid (same16 (s := a3) Hq2.out.tbP Hq2.out.xbP (by omega) (H2.out.below EnS.still Hb2.out) (Hfew.out rfl).1 (Hfew.out rfl).2 Hok2.out hszz)
      have Hlen := Lib.hid (Hfew.out rfl)
      obtain ⟨s1, _, s3, _, _, _⟩ := HS.out
      have Htb : Hid (TbO w.heap.size w2 tb mb (1 + 29 % 30) T) := Lib.hid (by obtain ⟨v, L, h1, _⟩ := Hq2.out; exact h1)
      have HV : Hid (∀ wz Tz, TbO w.heap.size wz tb mb (1 + 29 % 30) Tz → Tz = viewT T y2 → Calls Try.prog 20 #[.pointer (some ⟨tb, 0, none⟩), .string a3] wz (fun e w' => e = .returned (.tuple #[.int .i64 ((viewT T y2).getI (nmB a3)), .bool ((viewT T y2).getB (nmB a3))]) ∧ wz = w') ∧ Calls Try.prog 22 #[.pointer (some ⟨tb, 0, none⟩)] wz (fun e w' => e = .returned (.int .i64 ((viewT T y2).n : Nat)) ∧ wz = w')) := Lib.hid (fun wz Tz h e => by
        subst e
        exact ⟨tGet_any _ _ _ _ _ a3 wz h hszz, tLen_any _ _ _ _ _ wz h⟩)
      have Hvw : Hid (viewT T y2 = opsT T (opsE y2)) := Lib.hid rfl
      clear Hfew Hq2 hTn
      generalize viewT T y2 = tv at *
      generalize tv.getI (nmB a3) = ri at *
      generalize tv.getB (nmB a3) = rb at *
      generalize tv.n = rn at *
      have S1 := Lib.hid s1
      have S3 := Lib.hid s3
      clear s1 s3 HS
      go_wp2_with fail
      refine (S1.out _ (Below.refl _ _)).mono ?_
      rintro e w3 ⟨rfl, h3⟩
      have H3 := Lib.hid h3
      clear h3 S1
      go_wp2_with fail
      refine (S3.out _ H3.out).mono ?_
      rintro e w4 ⟨rfl, h4⟩
      have H4 := Lib.hid (H3.out.trans (h4.mono H3.out.size))
      have Ht4 := Lib.hid (Htb.out.still H4.out)
      have Hb4 := Lib.hid (Hb2.out.trans (H4.out.mono Hb2.out.size))
      clear h4 S3 H3 H4 Htb Hb2
      go_wp2_with fail
      go_loopw [56] (fun i wr => ∃ k : Nat, k ≤ y2.length ∧ i = .int .i64 k ∧ TbO w.heap.size wr tb mb (1 + 29 % 30) (opsT T (opsE (y2.take k))) ∧ Below w.heap.size w wr) (fun i _ => y2.length - (intOf i).toNat)
      case atStart => exact ⟨0, Nat.zero_le _, rfl, by simpa [opsE, opsT] using Ht4.out, Hb4.out⟩
      case round =>
        obtain ⟨k, hk, rfl, ht, hb⟩ := hrel
        have Ht := Lib.hid ht
        have Hb := Lib.hid hb
        clear ht hb Ht4 Hb4
        by_cases hlt : k < y2.length
        · have hlti : (k : Int) < (y2.length : Int) := by omega
          have hwk : IntKind.i64.wrap ((k : Int) + 1) = (k : Int) + 1 := by rw [IntKind.wrap_i64]; omega
          obtain ⟨bb, o, a, rfl, hS, hbl, hL, c0, c1, c2, c3, c4, c5, c6, c7⟩ := en_at (H2.out.below EnS.still Hb.out) hlt
          have Hg := Lib.hid hL.good
          have Hx := Lib.hid (Hlen.out.2 y2[k] (List.getElem_mem hlt)).1
          have Hsn := Lib.hid (opsE_snoc y2 k hlt)
          have Hgo : Hid (∀ o ∈ y2[k].good, OkOp o) := Lib.hid (fun o ho => Hok2.out o (by
            unfold opsE
            rw [List.mem_flatten]
            exact ⟨_, List.mem_map.2 ⟨_, List.getElem_mem hlt, rfl⟩, ho⟩))
          clear hL
          generalize y2[k] = x at *
          obtain ⟨pg, cg, pb, cb, pc, cc, pr, cr⟩ := a
          obtain ⟨xk, xh, xf, xd, xg, xb', xc, xr⟩ := x
          dsimp only at *
          have hal := (Below.refl wr.heap.size wr).alloc (Nat.le_refl _) (.cells #[.int .i64 xk, .bool xh, .string xf, .string xd, .slice pg xg.length cg, .slice pb xb'.length cb, .slice pc xc.length cc, .slice pr xr.length cr] 52)
          have hec := (Blk.new wr 52 #[.int .i64 xk, .bool xh, .string xf, .string xd, .slice pg xg.length cg, .slice pb xb'.length cb, .slice pc xc.length cc, .slice pr xr.length cr]).cell
          have Hba := Lib.hid (Hb.out.alloc Hb.out.size (.cells #[.int .i64 xk, .bool xh, .string xf, .string xd, .slice pg xg.length cg, .slice pb xb'.length cb, .slice pc xc.length cc, .slice pr xr.length cr] 52))
          have HA := Lib.hid (papply_any w.heap.size tb mb _ _ _ pg _ cg xg _ (Ht.out.still hal) (Hg.out.below OpS.still hal) (fun j hj => by have := Ht.out.mB; omega) Hgo.out (by have := Hx.out; omega))
          have Her := Lib.hid (appT_err (1 + 29 % 30) xg (opsT T (opsE (y2.take k))) [])
          have Hok : Hid ((appT (1 + 29 % 30) (opsT T (opsE (y2.take k))) xg []).2.2 = 0 → (appT (1 + 29 % 30) (opsT T (opsE (y2.take k))) xg []).1 = opsT T (opsE (y2.take (k + 1)))) := Lib.hid (fun h => by rw [appT_ok _ _ _ _ h, Hsn.out, opsT_append])
          clear hal Hg Hx Hsn Hgo Ht
          generalize appT (1 + 29 % 30) (opsT T (opsE (y2.take k))) xg [] = res at *
          obtain ⟨rt, ro, re⟩ := res
          unfold ApR at HA
          dsimp only at *
          go_wp2_with fail
          refine HA.out.mono ?_
          rintro e w5 ⟨v5, rfl, ho5, ht5, hT5⟩
          have Hb5 := Lib.hid (Hba.out.trans (hT5.below Hba.out.size (fun j e => by rw [e]; exact ht5.mB)))
          have Ht5 := Lib.hid ht5
          obtain ⟨p5, c5', rfl, _⟩ := ho5.slice IntU.still (S' := fun _ => True) (fun _ _ _ => trivial) (fun _ _ => trivial)
          clear ho5 ht5 hT5 HA Hba hec c0 c1 c2 c3 c4 c5 c6 c7
          rcases Her.out with rfl | rfl
          · have Hnx := Lib.hid (Hok.out rfl)
            clear Hok Her
            go_wp2_with fail
            go_roundw
            case rel => exact ⟨k + 1, by omega, by go_num, by rw [← Hnx.out]; exact Ht5.out, Hb5.out⟩
            case measure => simp [intOf]; omega
          · clear Hok Her
            go_wp2_with fail
            refine (Haw.out _).mono ?_
            rintro e wa ⟨rfl, ha⟩
            have Ha := Lib.hid (Hb5.out.trans (ha.mono Hb5.out.size))
            clear ha
            go_wp2_with fail
            go_ret
            exact ⟨rfl, Ha.out⟩
        · obtain rfl : k = y2.length := by omega
          rw [List.take_length, ← Hvw.out] at Ht
          have HV2 := HV.out _ _ Ht.out rfl
          have HG := Lib.hid HV2.1
          have HN := Lib.hid HV2.2
          clear HV2 HV
          go_wp2_with fail
          refine HG.out.mono ?_
          rintro e w5 ⟨rfl, rfl⟩
          go_wp2_with fail
          refine HN.out.mono ?_
          rintro e w5 ⟨rfl, rfl⟩
          go_wp2_with fail
          refine (Haw.out _).mono ?_
          rintro e wa ⟨rfl, ha⟩
          have Ha := Lib.hid (Hb.out.trans (ha.mono Hb.out.size))
          clear ha
          go_wp2_with fail
          go_ret
          exact ⟨rfl, Ha.out⟩
end Go.Proofs.Ytacnmdlefonjmaa

/-
  The walk of OverApplies (layer 16).
-/
namespace Go.Proofs.Ytacnmdlefonjmaa
open Go.RowKit Go.Maps
set_option linter.unusedVariables false
set_option linter.unusedSimpArgs false

set_option maxRecDepth 100000 in
set_option maxHeartbeats 16000000 in
theorem overApplies_walk (a0 : Int) (w0 : (Lit.int .u8 a0).wf = true) (p1 : Option Addr) (n1 c1 : Nat) (y1 : List OpV) (p2 : Option Addr) (n2 c2 : Nat) (y2 : List OpV) (a3 : ByteArray) (w : World) (r1 : SliceS 3 OpW (fun k => k < w.heap.size) w [.slice p1 n1 c1] y1) (r2 : SliceS 3 OpW (fun k => k < w.heap.size) w [.slice p2 n2 c2] y2) :
    Calls Try.prog 4 #[.int .u8 a0, .slice p1 n1 c1, .slice p2 n2 c2, .string a3] w fun e w' => e = .returned (.bool true) ∧ Below w.heap.size w w' := by
  obtain ⟨m, rfl, hm⟩ := u8_nat w0
  obtain ⟨h1, hok1⟩ := opsW_plain r1
  obtain ⟨h2, hok2⟩ := opsW_plain r2
  obtain ⟨rfl, hlc, hcm⟩ := h2.len
  have HB := Lib.hid (both_any _ m hm p1 n1 c1 y1 w h1 hok1)
  have H2 := Lib.hid h2
  have Hok2 := Lib.hid hok2
  have Haw := Lib.hid ovAwake
  clear r1 r2 h1 hok1 h2 hok2 w0
  generalize 1 + m % 30 = most at *
  go_enter Try.func4, Try.ntmps4
  go_wp2_with fail
  refine HB.out.mono ?_
  rintro e w2 ⟨tb, mb, xb, T, rfl, hq, hTn, hb2⟩
  have Hq2 := Lib.hid hq
  have Hb2 := Lib.hid hb2
  clear hq hb2 HB
  by_cases hln : (40 : Int) < ((y2.length : Nat) : Int)
  · have hd : decide ((40 : Int) < ((y2.length : Nat) : Int)) = true := by simpa using hln
    go_wp2_with fail
    refine (Haw.out _).mono ?_
    rintro e w3 ⟨rfl, hb3⟩
    have Hb3 := Lib.hid (Hb2.out.trans (hb3.mono Hb2.out.size))
    clear hb3
    go_wp2_with fail
    go_ret
    exact ⟨rfl, Hb3.out⟩
  · have hd0 : decide ((40 : Int) < ((y2.length : Nat) : Int)) = false := by simpa using hln
    by_cases hnm : (300 : Int) < ((a3.size : Nat) : Int)
    · have hd : decide ((300 : Int) < ((a3.size : Nat) : Int)) = true := by simpa using hnm
      go_wp2_with fail
      refine (Haw.out _).mono ?_
      rintro e w3 ⟨rfl, hb3⟩
      have Hb3 := Lib.hid (Hb2.out.trans (hb3.mono Hb2.out.size))
      clear hb3
      go_wp2_with fail
      go_ret
      exact ⟨rfl, Hb3.out⟩
    · have hd : decide ((300 : Int) < ((a3.size : Nat) : Int)) = false := by simpa using hnm
      have hszz : a3.size ≤ maxLen := by unfold maxLen; omega
      obtain ⟨v, L, ht2, hx2, e1, e2, e3, e4⟩ := Hq2.out
      have Ht2 := Lib.hid ht2
      have Hx2 := Lib.hid hx2
      have HS2 := Lib.hid (H2.out.below OpS.still Hb2.out)
      have HP := Lib.hid (papply_any w.heap.size tb mb most T _ p2 _ c2 y2 w2 ht2 HS2.out (fun j hj => by have := ht2.mB; omega) Hok2.out (by omega))
      have HR : Hid (∀ W, TbO w.heap.size W tb mb most T → True) := Lib.hid (fun _ _ => trivial)
      have Hsep := Lib.hid (And.intro e1 (And.intro e2 (And.intro e3 e4)))
      have Hlt := Lib.hid ht2.lt
      have Hxr := Lib.hid (fun k => hx2.own.row k)
      have Hxl := Lib.hid hx2.blk.lt
      clear ht2 hx2 e1 e2 e3 e4 HR Hq2
      generalize hres : appT most T y2 [] = res at *
      have Hres := Lib.hid hres
      clear hres
      obtain ⟨rt, ro, re⟩ := res
      unfold ApR at HP
      dsimp only at *
      go_wp2_with fail
      refine HP.out.mono ?_
      rintro e w3 ⟨v3, rfl, ho3, ht3, hT3⟩
      have hx3 := Hx2.out.touch hT3 Hsep.out.2.1 (fun k hk e => Hsep.out.2.2.2 (by rw [hk, e]))
      have Hb3 : Hid (Below w.heap.size w w3) := Lib.hid (Hb2.out.trans (hT3.below Hb2.out.size (fun j e => by rw [e]; exact ht3.mB)))
      have HRA := Lib.hid (rapply_any w.heap.size xb most v L T _ p2 _ c2 y2 w3 hx3 Hb3.out.size (by omega) (H2.out.below OpS.still Hb3.out) (fun k hk => ⟨fun e => by have := hx3.sB; omega, fun e => by have := (hx3.own.row k e).1; omega⟩) (by omega))
      rw [Hres.out] at HRA
      have Ho3 := Lib.hid ho3
      have Ht3 := Lib.hid ht3
      obtain ⟨p3, c3, rfl, _⟩ := ho3.slice IntU.still (S' := fun _ => True) (fun _ _ _ => trivial) (fun _ _ => trivial)
      clear ho3 ht3 hT3 hx3 HP Hx2 Ht2 HS2 Hres
      dsimp only at HRA
      go_wp2_with fail
      refine HRA.out.mono ?_
      rintro e w4 ⟨v4, rfl, ho4, hx4⟩
      have hT4 := hx4.T
      have Ho34 : Hid (OwnI w2.heap.size w4 (.slice p3 ro.length c3) ro) := Lib.hid (OwnI.touch' Ho3.out hT4 (fun k hk e => by
        have := (OwnS.row Ho3.out k hk).1
        rcases e with e | e
        · have := Hxl.out; omega
        · have := (Hxr.out k e).2; omega))
      have Ht4 : Hid (TbO w.heap.size w4 tb mb most rt) := Lib.hid (Ht3.out.touch hT4 (fun e => by
        rcases e with e | e
        · exact Hsep.out.1 e.symm
        · exact Hsep.out.2.2.1 e) (fun e => by
        rcases e with e | e
        · exact Hsep.out.2.1 e.symm
        · exact Hsep.out.2.2.2 e))
      obtain ⟨v5, L5, hxo, _, _⟩ := hx4.go
      have Hb4 : Hid (Below w.heap.size w w4) := Lib.hid (Hb3.out.trans (hT4.below Hb3.out.size (fun k e => by
        rcases e with e | e
        · rw [e]; exact hxo.sB
        · have := Hxr.out k e
          exact this.1)))
      have Hxo := Lib.hid hxo
      obtain ⟨p5, c5, rfl, _⟩ := hxo.slice
      obtain ⟨p4, c4, rfl, hs4⟩ := ho4.slice IntU.still (S' := fun _ => True) (fun _ _ _ => trivial) (fun _ _ => trivial)
      obtain ⟨p3', c3', e3', hs3⟩ := Ho34.out.slice IntU.still (S' := fun _ => True) (fun _ _ _ => trivial) (fun _ _ => trivial)
      simp only [Value.slice.injEq, true_and] at e3'
      obtain ⟨rfl, rfl⟩ := e3'
      have HEq : Hid (∀ W, Below w4.heap.size w4 W → Calls Try.prog 15 #[.slice p3 ro.length c3, .slice p4 ro.length c4] W fun e w' => e = .returned (.bool true) ∧ ∃ r, w' = W.drewN r) := Lib.hid (fun W hb => by
        have := equal_ints _ _ _ _ _ _ _ _ _ _ W (hs3.below IntU.still hb) (hs4.below IntU.still hb)
        rwa [listEq_refl_ints] at this)
      have HG := Lib.hid (tGet_any _ _ _ _ _ a3 w4 Ht4.out hszz)
      have HXG := Lib.hid (xGet_any _ _ _ _ _ _ a3 w4 Hxo.out)
      have HLn : Hid (∀ W, Below w4.heap.size w4 W → Calls Try.prog 22 #[.pointer (some ⟨tb, 0, none⟩)] W fun e w' => e = .returned (.int .i64 (L5.length : Nat)) ∧ W = w') := Lib.hid (fun W hb => by
        have := tLen_any _ _ _ _ _ W (Ht4.out.still hb)
        rwa [← Hxo.out.rd.len] at this)
      have hck := Hxo.out.blk.cell
      have Hxlt := Lib.hid Hxo.out.blk.lt
      clear hxo hx4 hT4 ho4 hs3 hs4 Ho34 Ht4 Hxo Ho3 Ht3 HRA Hsep Hlt Hxr Hxl Hb3 Hb2
      generalize rt.getI (nmB a3) = ri at *
      generalize rt.getB (nmB a3) = rb at *
      generalize L5.length = n5 at *
      generalize ro.length = nr at *
      go_wp2_with fail
      refine HG.out.mono ?_
      rintro e wx ⟨rfl, rfl⟩
      go_wp2_with fail
      refine HXG.out.mono ?_
      rintro e wx ⟨rfl, rfl⟩
      clear HG HXG
      have Hdr := Lib.hid (belD w4)
      go_wp2_with fail
      go_region_held3 (fun w' => (∀ i, w'.cell? ⟨xb, i, none⟩ = (#[.slice p5 n5 c5, .int .i64 (most : Int)] : Array Value)[i]?) ∧ Below w4.heap.size w4 w')
        (first | exact ⟨hck, Hdr.out⟩ | exact ⟨fun i => hck i, bel_dN w4 _⟩ | exact ⟨fun i => hS.1 i, hS.2.trans ((bel_dN _ _).mono hS.2.size)⟩ | exact ⟨fun i => (hb7.cell (p := ⟨xb, i, none⟩) (by have := hS.2.size; have := Hxlt.out; show xb < _; omega)).trans (hS.1 i), hS.2.trans (hb7.mono hS.2.size)⟩ | go_keep)
        (first
          | (go_at_call 15; have hS := ‹_ ∧ Below w4.heap.size w4 _›; refine (HEq.out _ hS.2).mono ?_; rintro e w7 ⟨rfl, r7, rfl⟩)
          | (go_at_call 22; have hS := ‹_ ∧ Below w4.heap.size w4 _›; refine (HLn.out _ hS.2).mono ?_; rintro e w7 ⟨rfl, rfl⟩)
          | (go_at_call 10; have hS := ‹_ ∧ Below w4.heap.size w4 _›; refine (Haw.out _).mono ?_; rintro e w7 ⟨rfl, hb7⟩))
      go_wp2
      go_ret
      refine ⟨rfl, Hb4.out.trans (Below.mono (B := w4.heap.size) ?_ Hb4.out.size)⟩
      exact And.right (by assumption)
end Go.Proofs.Ytacnmdlefonjmaa

