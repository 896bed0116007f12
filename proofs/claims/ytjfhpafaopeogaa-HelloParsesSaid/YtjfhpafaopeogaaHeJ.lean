/-
  First messages (layer 5): the body of a message: plain laws; the program's Build.
-/
import Derived.Test.YtjfhpafaopeogaaHeI
import Derived.Test.YtjfhpafaopeogaaAppendStr
import Derived.Test.YtjfhpafaopeogaaNumBack
namespace Go.Proofs.Ytjfhpafaopeogaa
open Go.RowKit
set_option linter.unusedVariables false
set_option linter.unusedSimpArgs false

def prB (x : PrV) : List UInt8 := (x.name.data.toList ++ [0]) ++ (x.value.data.toList ++ [0])
def parsB (L : List PrV) : List UInt8 := (L.map prB).flatten
theorem parsB_take {L : List PrV} {k : Nat} (hk : k < L.length) : parsB (L.take (k + 1)) = parsB (L.take k) ++ prB L[k] := by
  unfold parsB
  rw [List.take_succ_eq_append_getElem hk, List.map_append, List.flatten_append]
  simp
theorem parsB_le (L : List PrV) (k : Nat) : (parsB (L.take k)).length ≤ (parsB L).length := by
  have h : parsB L = parsB (L.take k) ++ parsB (L.drop k) := by
    unfold parsB
    rw [← List.flatten_append, ← List.map_append, List.take_append_drop]
  rw [h, List.length_append]
  omega
theorem parsB_all (L : List PrV) : parsB (L.take L.length) = parsB L := by rw [List.take_length]
theorem parsB_many : ∀ L : List PrV, 2 * L.length ≤ (parsB L).length
  | [] => by simp
  | x :: L => by
    have := parsB_many L
    unfold parsB at *
    rw [List.map_cons, List.flatten_cons, List.length_append, List.length_cons]
    have : 2 ≤ (prB x).length := by unfold prB; simp; omega
    omega

/-- The bytes of a message that may be told. -/
def bodyV (h : HelV) : List UInt8 :=
  if h.code = 80877102 then putV (putV (putV [] h.code 4) h.process 4) h.secret 4
  else if h.code = 196608 then (putV [] h.code 4 ++ parsB h.params) ++ [0]
  else putV [] h.code 4
def buildV (h : HelV) : List UInt8 × Int := if mayV h = true then (bodyV h, 0) else ([], 1)

/-- What a pair's bytes are after so many texts. -/
def pieceB (x : PrV) : Nat → List UInt8
  | 0 => []
  | 1 => x.name.data.toList ++ [0]
  | _ => prB x

/-- What Build leaves. -/
def BuildR (h : HelV) (w : World) (e : Ending) (w' : World) : Prop :=
  ∃ v, e = .returned (.tuple #[v, .int .i64 (buildV h).2]) ∧ OwnBR w.heap.size w' v (buildV h).1 ∧ Below w.heap.size w w'

set_option maxRecDepth 100000 in
set_option maxHeartbeats 4000000 in
theorem build_version (S : Nat → Prop) (h : HelV) (p : Option Addr) (c : Nat) (w : World) (hs : SliceS 2 PrS S w [.slice p h.params.length c] h.params) (hl : (parsB h.params).length ≤ 100000) (hm : mayV h = true) (h1 : h.code = 196608) :
    Calls Try.prog 53 #[helArg h p c] w (BuildR h w) := by
  obtain ⟨hb, hs1, hw⟩ := hel_box hs
  have HM := Lib.hid (fun w0 hs0 => may_any S h p c w0 hs0)
  rw [hm] at HM
  have Hv : Hid (buildV h = ((putV [] 196608 4 ++ parsB h.params) ++ [0], 0)) := Lib.hid (by unfold buildV bodyV; rw [if_pos hm, h1]; simp)
  have Hpl := Lib.hid (putV_len4 [] 196608 4)
  have Hw := Lib.hid hw
  have Hs0 := Lib.hid hs
  have Hs1 := Lib.hid hs1
  have Hb := Lib.hid hb
  have hmany := parsB_many h.params
  unfold BuildR
  generalize buildV h = bv at *
  obtain ⟨hc0, hc1, hc2, L⟩ := h
  dsimp only at *
  subst h1
  obtain ⟨-, hlc, hcm⟩ := hs.len
  unfold maxLen at hcm
  unfold helArg helCells at *
  dsimp only at *
  clear hs hs1 hb hw hm
  go_enter Try.func53, Try.ntmps53
  go_upto_region 1 with (fail)
  have hlt := Hb.out.lt
  generalize w.alloc (.cells #[.int .i64 196608, .int .i64 hc1, .int .i64 hc2, .slice p L.length c] 94) = w1 at *
  have hc := Hb.out.cell
  go_wp2_with fail
  refine (HM.out w1 Hs1.out).mono ?_
  rintro e w2 ⟨rfl, hb2⟩
  have hsz2 := hb2.size
  have hcw : ∀ i, w2.cell? ⟨w.heap.size, i, none⟩ = (#[.int .i64 196608, .int .i64 hc1, .int .i64 hc2, .slice p L.length c] : Array Value)[i]? := (Hb.out.below hb2 hlt).cell
  have Hb2 := Lib.hid (Hb.out.below hb2 hlt)
  have Hs2 := Lib.hid (Hs1.out.below PrS.still hb2)
  have HW2 := Lib.hid (Hw.out.trans (hb2.mono Hw.out.size))
  have Hp := Lib.hid (put_any none [] 0 196608 4 w2 (by simp) (BytesIn.nil _ _))
  clear hc hb2
  go_wp2_with fail
  refine Hp.out.mono ?_
  rintro e w3 ⟨v3, rfl, ho3, hb3⟩
  have hsz3 := hb3.size
  have Ho3 : Hid (OwnBR w.heap.size w3 v3 _) := Lib.hid (OwnR.base (OwnBR.of ho3) (show w.heap.size ≤ w2.heap.size by omega))
  have hcw3 : ∀ i, w3.cell? ⟨w.heap.size, i, none⟩ = (#[.int .i64 196608, .int .i64 hc1, .int .i64 hc2, .slice p L.length c] : Array Value)[i]? := (Hb2.out.below hb3 (by omega)).cell
  have Hs3 := Lib.hid (Hs2.out.below PrS.still hb3)
  have HW3 := Lib.hid (HW2.out.trans (hb3.mono HW2.out.size))
  clear hb3 ho3 hcw Hp
  obtain ⟨P, hP⟩ : ∃ P, putV [] 196608 4 = P := ⟨_, rfl⟩
  rw [hP] at Hv Hpl Ho3
  have hpl := Hpl.out
  simp only [List.length_nil] at hpl
  clear hP Hpl
  go_wp2_with fail
  go_loopw [4, 32] (fun v i wr => ∃ k : Nat, k ≤ L.length ∧ i = .int .i64 k ∧ OwnBR w.heap.size wr v (P ++ parsB (L.take k)) ∧ Below w.heap.size w wr) (fun _ i _ => L.length - (intOf i).toNat)
  case atStart => exact ⟨0, Nat.zero_le _, rfl, by simpa [parsB] using Ho3.out, HW3.out⟩
  case round =>
    obtain ⟨k, hk, rfl, ho, hb⟩ := hrel
    have hsz := hb.size
    have Hbw := Lib.hid hb
    have Ho := Lib.hid ho
    by_cases hltk : k < L.length
    · obtain ⟨b, o, rfl, hS, hbl, c0, c1⟩ := pr_at (Hs0.out.below PrS.still hb) hltk
      have Hk := Lib.hid (parsB_take hltk)
      have Hle := Lib.hid (parsB_le L (k + 1))
      clear ho hb hS
      generalize L[k] = x at *
      have hlti : (k : Int) < (L.length : Int) := by omega
      go_upto_region 12 with fail
      have hal : Below wr.heap.size wr (wr.alloc (.cells #[.string x.name, .string x.value] 150)) := (Below.refl _ _).alloc (Nat.le_refl _) _
      have Hoa := Lib.hid (Ho.out.below hal)
      have Hba := Lib.hid (Hbw.out.trans (hal.mono hsz))
      have hca := (Blk.new wr 150 #[.string x.name, .string x.value]).cell
      have hsza : w.heap.size ≤ (wr.alloc (.cells #[.string x.name, .string x.value] 150)).heap.size := by simp; omega
      clear hal Ho Hbw c0 c1
      generalize wr.alloc (.cells #[.string x.name, .string x.value] 150) = wa at *
      obtain ⟨Q, hQ⟩ : ∃ Q, P ++ parsB (L.take k) = Q := ⟨_, rfl⟩
      rw [hQ] at Hoa
      have hle := Hle.out
      have hQx : Q.length + (prB x).length ≤ 100004 := by rw [Hk.out, List.length_append] at hle; rw [← hQ, List.length_append]; omega
      have HQ := Lib.hid hQ
      clear hQ hle Hle
      go_wp2_with fail
      go_loopw [4, 41] (fun v i wq => ∃ j : Nat, j ≤ 2 ∧ i = .int .i64 j ∧ OwnBR w.heap.size wq v (Q ++ pieceB x j) ∧ Below w.heap.size w wq) (fun _ i _ => 2 - (intOf i).toNat)
      case atStart => exact ⟨0, by omega, rfl, by simpa [pieceB] using Hoa.out, Hba.out⟩
      case round =>
        obtain ⟨j, hj, rfl, hoq, hbq⟩ := hrel
        have hszq := hbq.size
        have Hbq := Lib.hid hbq
        have Hoq := Lib.hid hoq
        clear hoq hbq hca
        have hj3 : j = 0 ∨ j = 1 ∨ j = 2 := by omega
        rcases hj3 with rfl | rfl | rfl
        · have i0 : ∀ w, (Instr.index 162 (.agg #[.string x.name, .string x.value]) (.int .i64 0)).run Try.prog w = .ok (.string x.name) w := fun _ => by kernel_rfl
          have Hq : Hid (Q ++ pieceB x 0 = Q) := Lib.hid (by simp [pieceB])
          have Hn : Hid (((Q) ++ x.name.data.toList) ++ [0] = Q ++ pieceB x 1) := Lib.hid (by simp [pieceB, prB])
          have Hoj : Hid (OwnBR w.heap.size wr u4 (Q)) := Lib.hid (by rw [← Hq.out]; exact Hoq.out)
          have hroom : (Q).length + x.name.data.toList.length ≤ 200000 := by simp [prB] at hQx ⊢; omega
          have hroom2 : ((Q) ++ x.name.data.toList).length + 1 ≤ 300000 := by rw [List.length_append]; omega
          go_wp2_with (first
            | (at_builtin; refine step_appendStr _ rfl (.tmp 44) (.tmp 45) rfl w.heap.size u4 _ rfl Hoj.out x.name rfl (by omega) (by omega) ?_; intro v5 w5 ho5 hg5 hn5; have Ho5 := Lib.hid ho5; have hz5 := hg5.size; have HB5 : Hid (Below w.heap.size w w5) := Lib.hid (Hbq.out.trans (Below.of_row hg5 hszq (fun k hk => (Hoj.out.row k hk).1))); clear ho5 hg5 hn5)
            | (at_builtin; refine step_appendBR _ rfl (.tmp 47) (.tmp 48) rfl w.heap.size v5 _ rfl (Ho5.out.alloc _) (some ⟨w5.heap.size, 0, none⟩) [0] 1 1 rfl rfl (BytesIn.new1 w5 0 0 _ rfl) (by rw [List.length_singleton]; omega) (by rw [World.size_alloc]; omega) ?_; intro v6 w6 ho6 hg6 hn6; have Ho6 := Lib.hid ho6; have HB6 : Hid (Below w.heap.size w w6) := Lib.hid ((HB5.out.alloc (by omega) _).trans (Below.of_row hg6 (by rw [World.size_alloc]; omega) (fun k hk => (Ho5.out.row k hk).1))); clear ho6 hg6 hn6))
          go_roundw
          case rel => exact ⟨1, by omega, by go_num, by rw [← Hn.out]; exact Ho6.out, HB6.out⟩
          case measure => simp [intOf]
        · have i1 : ∀ w, (Instr.index 162 (.agg #[.string x.name, .string x.value]) (.int .i64 1)).run Try.prog w = .ok (.string x.value) w := fun _ => by kernel_rfl
          have Hq : Hid (Q ++ pieceB x 1 = Q ++ (x.name.data.toList ++ [0])) := Lib.hid (by simp [pieceB])
          have Hn : Hid (((Q ++ (x.name.data.toList ++ [0])) ++ x.value.data.toList) ++ [0] = Q ++ pieceB x 2) := Lib.hid (by simp [pieceB, prB])
          have Hoj : Hid (OwnBR w.heap.size wr u4 (Q ++ (x.name.data.toList ++ [0]))) := Lib.hid (by rw [← Hq.out]; exact Hoq.out)
          have hroom : (Q ++ (x.name.data.toList ++ [0])).length + x.value.data.toList.length ≤ 200000 := by simp [prB] at hQx ⊢; omega
          have hroom2 : ((Q ++ (x.name.data.toList ++ [0])) ++ x.value.data.toList).length + 1 ≤ 300000 := by rw [List.length_append]; omega
          go_wp2_with (first
            | (at_builtin; refine step_appendStr _ rfl (.tmp 44) (.tmp 45) rfl w.heap.size u4 _ rfl Hoj.out x.value rfl (by omega) (by omega) ?_; intro v5 w5 ho5 hg5 hn5; have Ho5 := Lib.hid ho5; have hz5 := hg5.size; have HB5 : Hid (Below w.heap.size w w5) := Lib.hid (Hbq.out.trans (Below.of_row hg5 hszq (fun k hk => (Hoj.out.row k hk).1))); clear ho5 hg5 hn5)
            | (at_builtin; refine step_appendBR _ rfl (.tmp 47) (.tmp 48) rfl w.heap.size v5 _ rfl (Ho5.out.alloc _) (some ⟨w5.heap.size, 0, none⟩) [0] 1 1 rfl rfl (BytesIn.new1 w5 0 0 _ rfl) (by rw [List.length_singleton]; omega) (by rw [World.size_alloc]; omega) ?_; intro v6 w6 ho6 hg6 hn6; have Ho6 := Lib.hid ho6; have HB6 : Hid (Below w.heap.size w w6) := Lib.hid ((HB5.out.alloc (by omega) _).trans (Below.of_row hg6 (by rw [World.size_alloc]; omega) (fun k hk => (Ho5.out.row k hk).1))); clear ho6 hg6 hn6))
          go_roundw
          case rel => exact ⟨2, by omega, by go_num, by rw [← Hn.out]; exact Ho6.out, HB6.out⟩
          case measure => simp [intOf]
        · have Hfin : Hid (OwnBR w.heap.size wr u4 (P ++ parsB (L.take (k + 1)))) := Lib.hid (by rw [Hk.out, ← List.append_assoc, HQ.out]; exact Hoq.out)
          go_wp2_with fail
          go_roundw
          case rel => exact ⟨k + 1, by omega, by go_num, Hfin.out, Hbq.out⟩
          case measure => simp [intOf]; omega
    · obtain rfl : k = L.length := by omega
      rw [parsB_all] at ho
      have Hoe := Lib.hid ho
      have hroom3 : (P ++ parsB L).length + 1 ≤ 200000 := by rw [List.length_append]; omega
      clear ho hb hltk hk Ho
      go_wp2_with (at_builtin; go_loud (refine step_appendBR _ rfl (.tmp 52) (.tmp 53) rfl w.heap.size u4 _ rfl (Hoe.out.alloc _) (some ⟨wr.heap.size, 0, none⟩) [0] 1 1 rfl rfl (BytesIn.new1 wr 0 0 _ rfl) (by rw [List.length_singleton]; omega) (by rw [World.size_alloc]; omega) ?_; intro v6 w6 ho6 hg6 hn6; have Ho6 := Lib.hid ho6; have HB6 : Hid (Below w.heap.size w w6) := Lib.hid ((Hbw.out.alloc (by omega) _).trans (Below.of_row hg6 (by rw [World.size_alloc]; omega) (fun k hk => (Hoe.out.row k hk).1))); clear ho6 hg6 hn6))
      go_ret2
      rw [Hv.out]
      exact ⟨_, rfl, Ho6.out, HB6.out⟩

end Go.Proofs.Ytjfhpafaopeogaa
