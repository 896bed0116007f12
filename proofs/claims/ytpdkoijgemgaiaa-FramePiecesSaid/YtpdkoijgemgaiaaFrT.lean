/-
  The contract of the statements' own 'take' (layer 4).
-/
import Derived.Test.YtpdkoijgemgaiaaFrH
import Derived.Test.YtpdkoijgemgaiaaFrL
namespace Go.Proofs.Ytpdkoijgemgaiaa
open Go.RowKit

/-- What the taking of all messages leaves. -/
def TakeR (B sb : Nat) (L : List UInt8) (ew : Int) (v : Value) (w : World) (e : Ending) (w' : World) : Prop :=
  ∃ vo out v', e = .returned vo ∧ OwnBR w.heap.size w' vo out ∧ out ++ (takeF 600 L ew).1 = L ∧ FrO B w' sb true (takeF 600 L ew).1 2000 4000 (takeF 600 L ew).2 v' ∧ (∀ k, rowOf v' = some k → rowOf v = some k) ∧ FrT sb v w w'

/-- The state at the loop's head. -/
structure TkS (w0 w : World) (B sb : Nat) (L : List UInt8) (v : Value) (f : Nat) (L0 : List UInt8) (wr0 : Int) (vo : Value) (L' : List UInt8) (wr' : Int) (v' : Value) (out : List UInt8) : Prop where
  own : OwnBR w0.heap.size w vo out
  fr : FrO B w sb true L' 2000 4000 wr' v'
  all : out ++ L' = L
  fin : takeF f L' wr' = takeF 600 L0 wr0
  row : ∀ k, rowOf v' = some k → rowOf v = some k
  tch : FrT sb v w0 w

theorem BytesIn.lt {w : World} {q : Option Addr} {l : List UInt8} (h : BytesIn w q l) (h0 : l ≠ []) {a : Addr} (e : q = some a) : a.block < w.heap.size := by
  have h1 : 0 < l.length := List.length_pos_iff.2 h0
  obtain ⟨b, o, rfl⟩ := h.addr h1
  cases e
  exact World.block_lt_of_cell? w _ (h.cellAt 0 h1)

/-- While a message's bytes are appended. -/
structure PcS (w0 w : World) (B sb : Nat) (v v2 : Value) (r : List UInt8) (g : Nat) (ty : Nat) (q : Option Addr) (b : List UInt8) (d : Nat) (vo : Value) (out : List UInt8) : Prop where
  own : OwnBR w0.heap.size w vo out
  fr : FrO B w sb true r 2000 4000 0 v2
  blk : Blk w g 67 #[.int .u8 (ty : Int), .slice q b.length d]
  inn : BytesIn w q b
  tch : FrT sb v w0 w
  sbl : sb < w0.heap.size
  row : ∀ k, rowOf v2 = some k → k < w0.heap.size
  gne : rowOf vo ≠ some g
  qne : b ≠ [] → ∀ a, q = some a → a.block < w.heap.size ∧ rowOf vo ≠ some a.block
section
variable {w0 w w' : World} {B sb : Nat} {v v2 vo v' : Value} {r b out m : List UInt8} {g ty d : Nat} {q : Option Addr}
theorem PcS.step (h : PcS w0 w B sb v v2 r g ty q b d vo out) (hb : Below w.heap.size w w') : PcS w0 w' B sb v v2 r g ty q b d vo out :=
  ⟨h.own.below hb, h.fr.still hb, h.blk.below hb h.blk.lt, h.inn.below hb, h.tch.trans (Touch.mono (Touch.of_below (p := fun _ => False) hb) (fun _ _ e => e.elim)), h.sbl, h.row, h.gne, fun h0 a e => ⟨Nat.lt_of_lt_of_le (h.qne h0 a e).1 hb.size, (h.qne h0 a e).2⟩⟩
theorem PcS.grow (h : PcS w0 w B sb v v2 r g ty q b d vo out) (ho : OwnBR w0.heap.size w' v' (out ++ m)) (hg : w.grownBy w' (rowOf vo)) (hv : ∀ k, rowOf v' = some k → rowOf vo = some k ∨ w.heap.size ≤ k) : PcS w0 w' B sb v v2 r g ty q b d v' (out ++ m) := by
  have hT := Touch.of_row hg
  have hsb := h.sbl
  refine ⟨ho, h.fr.touch hT (fun e => ?_) (fun k hk e => ?_), hT.blk h.blk (fun e => h.gne e.symm), hT.bytesIn h.inn (fun h0 x hx e => (h.qne h0 x hx).2 e.symm), h.tch.then hT (fun i hi e => ?_), h.sbl, h.row, fun e => ?_, fun h0 a e => ⟨Nat.lt_of_lt_of_le (h.qne h0 a e).1 hT.size, fun e' => ?_⟩⟩
  · have := (h.own.row _ e.symm).1; omega
  · have := (h.own.row _ e.symm).1; have := h.row k hk; omega
  · have := (h.own.row _ e.symm).1; omega
  · rcases hv _ e with k | k
    · exact h.gne k
    · have := h.blk.lt; omega
  · rcases hv _ e' with k | k
    · exact (h.qne h0 a e).2 k
    · have := (h.qne h0 a e).1; omega
theorem PcS.cells (h : PcS w0 w B sb v v2 r g ty q b d vo out) : ∀ i, w.cell? ⟨g, i, none⟩ = (#[.int .u8 (ty : Int), .slice q b.length d] : Array Value)[i]? := h.blk.cell
end

set_option maxRecDepth 100000 in
set_option maxHeartbeats 10000000 in
theorem take_any (B sb : Nat) (L : List UInt8) (ew : Int) (v : Value) (w : World) (h : FrO B w sb true L 2000 4000 ew v) (hL : L.length ≤ 4000) :
    Calls Try.prog 68 #[.pointer (some ⟨sb, 0, none⟩)] w fun e w' => TakeR B sb L ew v w e w' := by
  have Hs := Lib.hid (show TkS w w B sb L v 600 L ew (.slice none 0 0) L ew v [] from ⟨OwnBR.empty _ _ _, h, rfl, rfl, fun _ h => h, Touch.refl _ _⟩)
  have hsl := h.blk.lt
  have Hrow := Lib.hid (fun k hk => (h.own.row k hk).2)
  clear h
  go_enter Try.func68, Try.ntmps68
  go_wp2_with fail
  go_loopw [3, 7] (fun vo i wx => ∃ k : Nat, k ≤ 600 ∧ i = .int .i64 k ∧ ∃ L' wr' v' out, TkS w wx B sb L v (600 - k) L ew vo L' wr' v' out) (fun _ i _ => 600 - (intOf i).toNat)
  case atStart => exact ⟨0, by omega, rfl, _, _, _, _, Hs.out⟩
  case round =>
    clear Hs
    obtain ⟨k, hk, rfl, L', wr', v', out, hs⟩ := hrel
    have hsz := hs.tch.size
    have hlen : out.length + L'.length ≤ 4000 := by
      have := congrArg List.length hs.all
      rw [List.length_append] at this
      omega
    have Hs := Lib.hid hs
    clear hs
    by_cases hlt : k < 600
    · go_wp2_with fail
      refine (frNext_any B sb true L' 2000 4000 wr' v' _ Hs.out.fr (by omega) (by omega)).mono ?_
      rintro e w1 hn
      rcases hn with ⟨hn, rfl, hf1, hT1⟩ | ⟨ty, b, r, q, d, v2, hn, rfl, hrl, hbl, rfl, hbs, hf1, hrw, hT1⟩
      · have hfin : takeF 600 L ew = (L', wrongL true 2000 L' wr') := by
          rw [← Hs.out.fin, show 600 - k = (600 - (k + 1)) + 1 from by omega]
          rw [takeF, hn]
        have ho1 := Hs.out.own.touch hT1 (fun j hj e => by have := (Hs.out.own.row j hj).1; omega)
        obtain ⟨po, co, rfl, _⟩ := ho1.slice
        have Hend : Hid (∀ o : Obj, TakeR B sb L ew v w (.returned (.slice po out.length co)) (w1.alloc o)) := Lib.hid (fun o => by
          refine ⟨_, out, v', rfl, ho1.alloc o, ?_, ?_, Hs.out.row, (Hs.out.tch.trans (hT1.mono (fun _ _ e => .inl e))).alloc o⟩
          · rw [hfin]; exact Hs.out.all
          · rw [hfin]; exact hf1.alloc o)
        clear hn hf1 hT1 hfin ho1
        go_wp2
        go_ret
        exact Hend.out _
      · obtain ⟨P, hP, hPb, hLp, hb2, hty⟩ := next_parts hn
        have hby := next_bytes hn
        have hfin : takeF (600 - (k + 1)) r 0 = takeF 600 L ew := by
          rw [← Hs.out.fin, show 600 - k = (600 - (k + 1)) + 1 from by omega]
          rw [takeF, hn]
        have Hfin := Lib.hid hfin
        have Hby := Lib.hid hby
        have Hrw := Lib.hid hrw
        have ho1 := Hs.out.own.touch hT1 (fun j hj e => by
          have h1 := (Hs.out.own.row j hj).1
          rcases e with e | e
          · omega
          · have := Hrow.out j (Hs.out.row j e); omega)
        have hz1 := hT1.size
        have Ho1 := Lib.hid ho1
        have Hou := Lib.hid (fun j (hj : rowOf u3 = some j) => Hs.out.own.row j hj)
        have Hf1 := Lib.hid hf1
        have Hbs := Lib.hid hbs
        have HT1 : Hid (FrT sb v w w1) := Lib.hid (Hs.out.tch.trans (hT1.mono (fun i hi e => by rcases e with e | e; (· exact .inl e); (· exact .inr (Hs.out.row i e)))))
        have Hrow2 := Lib.hid (fun j (hj : rowOf v2 = some j) => Hs.out.row j (Hrw.out j hj))
        have Hall := Lib.hid Hs.out.all
        clear hn hf1 hT1 hfin hby hP hPb hLp hrw ho1 hbs Hs
        go_upto_region 6 with (fail)
        generalize hg : w1.heap.size = g at *
        have HP1 : Hid (PcS w (w1.alloc (.cells #[.int .u8 (ty : Int), .slice q b.length d] 67)) B sb v v2 r g ty q b d u3 out) := Lib.hid (by
          have hbI := Hbs.out
          refine ⟨Ho1.out.alloc _, Hf1.out.alloc _, ?_, hbI.parts.2.2.2.alloc _, HT1.out.alloc _, hsl, fun k hk => Hrow.out k (Hrow2.out k hk), fun e => ?_, fun h0 a e => ⟨?_, fun e' => ?_⟩⟩
          · rw [← hg]; exact Blk.new _ _ _
          · have := (Hou.out _ e).2; omega
          · have := hbI.parts.2.2.2.lt h0 e
            simp; omega
          · obtain ⟨_, _, he, _, _, _, hS⟩ := hbI
            cases he
            have := hS h0 a e
            have := (Hou.out _ e').2
            omega)
        clear Ho1 Hf1 Hbs HT1 Hou hg
        generalize w1.alloc (.cells #[.int .u8 (ty : Int), .slice q b.length d] 67) = w2 at *
        have hc2 := HP1.out.cells
        have HPa : Hid (PcS w (w2.drew.alloc (.cells #[.int .u8 (ty : Int)] 5)) B sb v v2 r g ty q b d u3 out) := Lib.hid ((HP1.out.step (((Touch.refl (fun _ => False) w2).drew).below (Nat.le_refl _) (fun _ e => e.elim))).step ((Below.refl _ _).alloc (Nat.le_refl _) _))
        have Hia : Hid (BytesIn (w2.drew.alloc (.cells #[.int .u8 (ty : Int)] 5)) (some ⟨w2.heap.size, 0, none⟩) [UInt8.ofNat ty]) := Lib.hid (BytesIn.new1 w2.drew (UInt8.ofNat ty) (ty : Int) 5 (by simp; omega))
        have Hby0 : Hid (∀ w, BytesIn w q b → Calls Try.prog 65 #[.agg #[.int .u8 0, .slice q b.length d]] w fun e w' => ∃ v, e = .returned v ∧ OwnBR w.heap.size w' v (msgL 0 b) ∧ Below w.heap.size w w') := Lib.hid (fun w hi => frBytes_any 0 b q d w hi (by omega))
        have hml := msgL_len 0 b
        go_region_held3 (fun w' => ∀ i, w'.cell? ⟨g, i, none⟩ = (#[.int .u8 (ty : Int), .slice q b.length d] : Array Value)[i]?)
          (first | exact hc2 | exact HPa.out.cells | exact HP3.out.cells | exact HP4.out.cells | exact HP5.out.cells | go_keep)
          (first
            | (refine rgn_appendBR rfl (.tmp 17) (.tmp 20) rfl w.heap.size _ out rfl HPa.out.own _ [UInt8.ofNat ty] _ _ rfl rfl Hia.out (by simp; omega) HPa.out.tch.size ?_; intro v3 w3 ho3 hg3 hr3; have HP3 := Lib.hid (HPa.out.grow ho3 hg3 hr3); clear ho3 hg3 hr3)
            | (go_at_call 65; refine (Hby0.out _ HP3.out.inn).mono ?_; rintro e w4 ⟨v4, rfl, ho4, hb4⟩; have HP4 := Lib.hid (HP3.out.step hb4); obtain ⟨p4, c4, rfl, hB4⟩ := ho4.bytesS (S := fun _ => True) (fun _ _ => trivial); have Hi4 := Lib.hid hB4.parts.2.2.2; clear ho4 hb4 hB4)
            | (refine rgn_appendBR rfl (.tmp 21) (.tmp 25) rfl w.heap.size _ (out ++ [UInt8.ofNat ty]) rfl HP4.out.own _ (msgL 0 b) _ _ rfl rfl Hi4.out (by simp; omega) HP4.out.tch.size ?_; intro v5 w5 ho5 hg5 hr5; have HP5 := Lib.hid (HP4.out.grow ho5 hg5 hr5); clear ho5 hg5 hr5))
        have Hs5 : Hid (TkS w w5 B sb L v (600 - (k + 1)) L ew v5 r 0 v2 (out ++ [UInt8.ofNat ty] ++ msgL 0 b)) := Lib.hid ⟨HP5.out.own, HP5.out.fr, by rw [← Hall.out, Hby.out, List.append_assoc, List.append_assoc, List.append_assoc], Hfin.out, Hrow2.out, HP5.out.tch⟩
        rename_i hHeld
        clear hHeld HP5 Hby0 hc2 HP3 HP4 HPa Hia Hi4
        go_wp2
        refine ⟨⟨k + 1, by omega, by simp, _, _, _, _, Hs5.out⟩, ?_⟩
        have e1 : (intOf (Value.int IntKind.i64 (↑k + 1))).toNat = k + 1 := by show ((k : Int) + 1).toNat = k + 1; omega
        have e2 : (intOf (Value.int IntKind.i64 (↑k))).toNat = k := by show ((k : Int)).toNat = k; omega
        omega
    · obtain rfl : k = 600 := by omega
      have hfin : takeF 600 L ew = (L', wr') := by
        rw [← Hs.out.fin]
        rfl
      have ho1 := Hs.out.own
      obtain ⟨po, co, rfl, _⟩ := ho1.slice
      have Hend : Hid (TakeR B sb L ew v w (.returned (.slice po out.length co)) wr) := Lib.hid (by
        refine ⟨_, out, v', rfl, ho1, ?_, ?_, Hs.out.row, Hs.out.tch⟩
        · rw [hfin]; exact Hs.out.all
        · rw [hfin]; exact Hs.out.fr)
      clear hfin ho1 Hs
      go_wp2
      go_ret
      exact Hend.out

end Go.Proofs.Ytpdkoijgemgaiaa
