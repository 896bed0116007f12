/-
  Faults (layer 8): a fault as a message, its bytes; both; awake, far.
-/
import Derived.Test.YthhebfknikfleaaFlB
import Derived.Test.YthhebfknikfleaaBaR
namespace Go.Proofs.Ythhebfknikfleaa
open Go.RowKit
set_option linter.unusedVariables false
set_option linter.unusedSimpArgs false

/-- A fault. -/
def backE (l : List FdV) : BaV := { baZero 69 with fields := l }
def faultR (l : List FdV) (w : World) (e : Ending) (w' : World) : Prop := ∃ p d, e = .returned (.agg #[.int .u8 69, .int .u8 0, .string ⟨#[]⟩, .string ⟨#[]⟩, .string ⟨#[]⟩, .int .i64 0, .int .i64 0, .slice none 0 0, .slice none 0 0, .slice none 0 0, .slice p 4 d]) ∧ SliceS 2 FdS (fun j => w.heap.size ≤ j) w' [.slice p 4 d] l ∧ Below w.heap.size w w'
theorem backE_l {S : Nat → Prop} {w : World} {p : Option Addr} {d : Nat} {l : List FdV} (h : SliceS 2 FdS S w [.slice p 4 d] l) : BaL S w (backE l) ⟨none, 0, none, 0, none, 0, p, d⟩ := by
  obtain ⟨h4, _, _⟩ := h.len
  refine ⟨SliceS.empty none 0 (by simp [maxLen]), SliceS.empty none 0 (by simp [maxLen]), SliceS.empty none 0 (by simp [maxLen]), ?_⟩
  show SliceS 2 FdS S w [.slice p l.length d] l
  rw [← h4]
  exact h
theorem backE_b (l : List FdV) : BaB (backE l) := ⟨show (0 : Int) ≤ 69 by decide, show (69 : Int) < 256 by decide, show (0 : Int) ≤ 0 by decide, show (0 : Int) < 256 by decide⟩
theorem backE_short {l : List FdV} (hl : l.length ≤ 8) (hm : ∀ f ∈ l, f.text.size ≤ 10000) : ShortB (backE l) := by
  refine ⟨⟨Nat.zero_le _, Nat.zero_le _, Nat.zero_le _, Nat.zero_le _, Nat.zero_le _, fun c hc => (by cases hc), Nat.zero_le _, fun c hc => (by cases hc), show l.length ≤ 1000 by omega, hm⟩, ?_⟩
  have h := fldP_len [] l 10000 hm l.length (Nat.le_refl _)
  rw [fldP_all] at h
  show ((l.foldl fieldW []) ++ [0]).length ≤ 100000
  rw [List.length_append, List.length_singleton]
  simp only [List.length_nil] at h
  omega
def baElZ : Array Value := #[.int .u8 0, .int .u8 0, .string ⟨#[]⟩, .string ⟨#[]⟩, .string ⟨#[]⟩, .int .i64 0, .int .i64 0, .slice none 0 0, .slice none 0 0, .slice none 0 0, .slice none 0 0]
/-- The end: a result's block is set. -/
theorem fault_done {w0 w : World} {g : Nat} {cs : Array Value} (hb : Blk w g 33 #[.int .u8 0, .int .u8 0, .string ⟨#[]⟩, .string ⟨#[]⟩, .string ⟨#[]⟩, .int .i64 0, .int .i64 0, .slice none 0 0, .slice none 0 0, .slice none 0 0, .slice none 0 0]) (hB : Below w0.heap.size w0 w) (hg : w0.heap.size ≤ g) {l : List FdV} {p : Option Addr} {d : Nat}
    (hs : SliceS 2 FdS (fun j => g < j) w [.slice p 4 d] l) :
    Blk (setEl w g (.int .u8 69) (.int .u8 0) (.string ⟨#[]⟩) (.string ⟨#[]⟩) (.string ⟨#[]⟩) (.int .i64 0) (.int .i64 0) (.slice none 0 0) (.slice none 0 0) (.slice none 0 0) (.slice p 4 d)) g 33 #[.int .u8 69, .int .u8 0, .string ⟨#[]⟩, .string ⟨#[]⟩, .string ⟨#[]⟩, .int .i64 0, .int .i64 0, .slice none 0 0, .slice none 0 0, .slice none 0 0, .slice p 4 d] ∧
    SliceS 2 FdS (fun j => w0.heap.size ≤ j) (setEl w g (.int .u8 69) (.int .u8 0) (.string ⟨#[]⟩) (.string ⟨#[]⟩) (.string ⟨#[]⟩) (.int .i64 0) (.int .i64 0) (.slice none 0 0) (.slice none 0 0) (.slice none 0 0) (.slice p 4 d)) [.slice p 4 d] l ∧
    Below w0.heap.size w0 (setEl w g (.int .u8 69) (.int .u8 0) (.string ⟨#[]⟩) (.string ⟨#[]⟩) (.string ⟨#[]⟩) (.int .i64 0) (.int .i64 0) (.slice none 0 0) (.slice none 0 0) (.slice none 0 0) (.slice p 4 d)) := by
  have hT := setEl_touch w g (.int .u8 69) (.int .u8 0) (.string ⟨#[]⟩) (.string ⟨#[]⟩) (.string ⟨#[]⟩) (.int .i64 0) (.int .i64 0) (.slice none 0 0) (.slice none 0 0) (.slice none 0 0) (.slice p 4 d)
  refine ⟨setEl_blk _ _ _ _ _ _ _ _ _ _ _ hb, (SliceS.still FdS.still) _ _ _ _ _ _ hs (Kept.touch hT (fun j _ h => ?_)), hB.trans (hT.below hB.size (fun j e => by omega))⟩
  have h' : g < j := h
  exact ⟨show w0.heap.size ≤ j by omega, by omega⟩
theorem Small4 {s c t : ByteArray} (hs : s.size ≤ 10000) (hc : c.size ≤ 10000) (ht : t.size ≤ 10000) : ∀ f ∈ makeF s c t, f.text.size ≤ 10000 := by
  intro f hf
  simp only [makeF, List.mem_cons, List.not_mem_nil, or_false] at hf
  rcases hf with rfl | rfl | rfl | rfl <;> assumption
theorem mx {s : ByteArray} (h : s.size ≤ 10000) : s.size ≤ maxLen := by unfold maxLen; omega

def errS : ByteArray := ⟨#[69, 82, 82, 79, 82]⟩
def fatS : ByteArray := ⟨#[70, 65, 84, 65, 76]⟩

set_option maxRecDepth 100000 in
set_option maxHeartbeats 1000000 in
theorem ftold_any (s c t : ByteArray) (w : World) (hs : s.size ≤ maxLen) (hc : c.size ≤ maxLen) (ht : t.size ≤ maxLen) : Calls Try.prog 51 #[.string s, .string c, .string t] w (faultR (makeF s c t) w) := by
  have HB0 := Lib.hid ((Below.refl w.heap.size w).alloc (Nat.le_refl _) (.cells #[.int .u8 0, .int .u8 0, .string ⟨#[]⟩, .string ⟨#[]⟩, .string ⟨#[]⟩, .int .i64 0, .int .i64 0, .slice none 0 0, .slice none 0 0, .slice none 0 0, .slice none 0 0] 33))
  have HK0 := Lib.hid (Blk.new w 33 #[.int .u8 0, .int .u8 0, .string ⟨#[]⟩, .string ⟨#[]⟩, .string ⟨#[]⟩, .int .i64 0, .int .i64 0, .slice none 0 0, .slice none 0 0, .slice none 0 0, .slice none 0 0])
  have HM := Lib.hid (fun w0 : World => make_any s c t w0 hs hc ht)
  skip
  unfold faultR
  clear hs hc ht
  go_enter Try.func51, Try.ntmps51
  go_upto_region 1 with fail
  generalize w.alloc (.cells #[.int .u8 0, .int .u8 0, .string ⟨#[]⟩, .string ⟨#[]⟩, .string ⟨#[]⟩, .int .i64 0, .int .i64 0, .slice none 0 0, .slice none 0 0, .slice none 0 0, .slice none 0 0] 33) = w1 at *
  have hl1 := HK0.out.lt
  go_wp2_with fail
  refine (HM.out w1).mono ?_
  rintro e w2 ⟨p, d, rfl, hs, hb⟩
  have HK := Lib.hid (HK0.out.below hb hl1)
  have HB := Lib.hid (HB0.out.trans (hb.mono HB0.out.size))
  have Hd := Lib.hid (fault_done (cs := #[]) HK.out HB.out (Nat.le_refl _) (SliceS.weak FdS.still hs (fun j _ hj => by have hj' : w1.heap.size ≤ j := hj; exact (by omega : w.heap.size < j))))
  have hcx := HK.out.cell
  have hfx := HK.out.frozen
  clear hs hb
  unfold setEl at Hd
  go_wp2_with fail
  have hcf := Hd.out.1.cell
  clear hcx hfx
  refine bodyPost_ret (v := .agg #[.int .u8 69, .int .u8 0, .string ⟨#[]⟩, .string ⟨#[]⟩, .string ⟨#[]⟩, .int .i64 0, .int .i64 0, .slice none 0 0, .slice none 0 0, .slice none 0 0, .slice p 4 d]) (by simp [results, Try.results51, go_sem, hcf]) rfl ?_
  exact ⟨p, d, rfl, Hd.out.2.1, Hd.out.2.2⟩

set_option maxRecDepth 100000 in
set_option maxHeartbeats 1000000 in
theorem ferror_any (c t : ByteArray) (w : World) (hc : c.size ≤ maxLen) (ht : t.size ≤ maxLen) (hs : True) : Calls Try.prog 34 #[.string c, .string t] w (faultR (makeF ⟨#[69, 82, 82, 79, 82]⟩ c t) w) := by
  have HB0 := Lib.hid ((Below.refl w.heap.size w).alloc (Nat.le_refl _) (.cells #[.int .u8 0, .int .u8 0, .string ⟨#[]⟩, .string ⟨#[]⟩, .string ⟨#[]⟩, .int .i64 0, .int .i64 0, .slice none 0 0, .slice none 0 0, .slice none 0 0, .slice none 0 0] 33))
  have HK0 := Lib.hid (Blk.new w 33 #[.int .u8 0, .int .u8 0, .string ⟨#[]⟩, .string ⟨#[]⟩, .string ⟨#[]⟩, .int .i64 0, .int .i64 0, .slice none 0 0, .slice none 0 0, .slice none 0 0, .slice none 0 0])
  have HM := Lib.hid (fun w0 : World => ftold_any ⟨#[69, 82, 82, 79, 82]⟩ c t w0 (by simp [maxLen, ByteArray.size]) hc ht)
  unfold faultR at HM
  unfold faultR
  clear hs hc ht
  go_enter Try.func34, Try.ntmps34
  go_upto_region 1 with fail
  generalize w.alloc (.cells #[.int .u8 0, .int .u8 0, .string ⟨#[]⟩, .string ⟨#[]⟩, .string ⟨#[]⟩, .int .i64 0, .int .i64 0, .slice none 0 0, .slice none 0 0, .slice none 0 0, .slice none 0 0] 33) = w1 at *
  have hl1 := HK0.out.lt
  go_wp2_with fail
  refine (HM.out w1).mono ?_
  rintro e w2 ⟨p, d, rfl, hs, hb⟩
  have HK := Lib.hid (HK0.out.below hb hl1)
  have HB := Lib.hid (HB0.out.trans (hb.mono HB0.out.size))
  have Hd := Lib.hid (fault_done (cs := #[]) HK.out HB.out (Nat.le_refl _) (SliceS.weak FdS.still hs (fun j _ hj => by have hj' : w1.heap.size ≤ j := hj; exact (by omega : w.heap.size < j))))
  have hcx := HK.out.cell
  have hfx := HK.out.frozen
  clear hs hb
  unfold setEl at Hd
  go_wp2_with fail
  have hcf := Hd.out.1.cell
  clear hcx hfx
  refine bodyPost_ret (v := .agg #[.int .u8 69, .int .u8 0, .string ⟨#[]⟩, .string ⟨#[]⟩, .string ⟨#[]⟩, .int .i64 0, .int .i64 0, .slice none 0 0, .slice none 0 0, .slice none 0 0, .slice p 4 d]) (by simp [results, Try.results34, go_sem, hcf]) rfl ?_
  exact ⟨p, d, rfl, Hd.out.2.1, Hd.out.2.2⟩

set_option maxRecDepth 100000 in
set_option maxHeartbeats 1000000 in
theorem rferror_any (c t : ByteArray) (w : World) (hc : c.size ≤ maxLen) (ht : t.size ≤ maxLen) (hs : True) : Calls Try.prog 35 #[.string c, .string t] w (faultR (makeF ⟨#[69, 82, 82, 79, 82]⟩ c t) w) := by
  have HB0 := Lib.hid ((Below.refl w.heap.size w).alloc (Nat.le_refl _) (.cells #[.int .u8 0, .int .u8 0, .string ⟨#[]⟩, .string ⟨#[]⟩, .string ⟨#[]⟩, .int .i64 0, .int .i64 0, .slice none 0 0, .slice none 0 0, .slice none 0 0, .slice none 0 0] 33))
  have HK0 := Lib.hid (Blk.new w 33 #[.int .u8 0, .int .u8 0, .string ⟨#[]⟩, .string ⟨#[]⟩, .string ⟨#[]⟩, .int .i64 0, .int .i64 0, .slice none 0 0, .slice none 0 0, .slice none 0 0, .slice none 0 0])
  have HM := Lib.hid (fun w0 : World => rmake_any ⟨#[69, 82, 82, 79, 82]⟩ c t w0 (by simp [maxLen, ByteArray.size]) hc ht)
  skip
  unfold faultR
  clear hs hc ht
  go_enter Try.func35, Try.ntmps35
  go_upto_region 1 with fail
  generalize w.alloc (.cells #[.int .u8 0, .int .u8 0, .string ⟨#[]⟩, .string ⟨#[]⟩, .string ⟨#[]⟩, .int .i64 0, .int .i64 0, .slice none 0 0, .slice none 0 0, .slice none 0 0, .slice none 0 0] 33) = w1 at *
  have hl1 := HK0.out.lt
  go_wp2_with fail
  refine (HM.out w1).mono ?_
  rintro e w2 ⟨p, d, rfl, hs, hb⟩
  have HK := Lib.hid (HK0.out.below hb hl1)
  have HB := Lib.hid (HB0.out.trans (hb.mono HB0.out.size))
  have Hd := Lib.hid (fault_done (cs := #[]) HK.out HB.out (Nat.le_refl _) (SliceS.weak FdS.still hs (fun j _ hj => by have hj' : w1.heap.size ≤ j := hj; exact (by omega : w.heap.size < j))))
  have hcx := HK.out.cell
  have hfx := HK.out.frozen
  clear hs hb
  unfold setEl at Hd
  go_wp2_with fail
  have hcf := Hd.out.1.cell
  clear hcx hfx
  refine bodyPost_ret (v := .agg #[.int .u8 69, .int .u8 0, .string ⟨#[]⟩, .string ⟨#[]⟩, .string ⟨#[]⟩, .int .i64 0, .int .i64 0, .slice none 0 0, .slice none 0 0, .slice none 0 0, .slice p 4 d]) (by simp [results, Try.results35, go_sem, hcf]) rfl ?_
  exact ⟨p, d, rfl, Hd.out.2.1, Hd.out.2.2⟩

/-- Bytes that were made. -/
def BytR (l : List UInt8) (w : World) (e : Ending) (w' : World) : Prop := ∃ p d, e = .returned (.slice p l.length d) ∧ BytesIn w' p l ∧ Below w.heap.size w w'
theorem sliceE {S : Nat → Prop} {w : World} {p : Option Addr} {d : Nat} {l : List FdV} (h : SliceS 2 FdS S w [.slice p 4 d] l) (hS : ∀ k, k < w.heap.size → S k → True) :
    SliceS 11 BaS (fun _ => True) (w.alloc (.cells #[.int .u8 69, .int .u8 0, .string ⟨#[]⟩, .string ⟨#[]⟩, .string ⟨#[]⟩, .int .i64 0, .int .i64 0, .slice none 0 0, .slice none 0 0, .slice none 0 0, .slice p 4 d] 33)) [.slice (some ⟨w.heap.size, 0, none⟩) 1 1] [backE l] := by
  have hl := h.len.1
  refine SliceS.new1 (S := S) BaS.still w 33 _ (backE l) ⟨⟨none, 0, none, 0, none, 0, p, d⟩, ?_, backE_l h, backE_b l⟩ rfl (fun _ _ _ => trivial) trivial
  show _ = (baCells (backE l) ⟨none, 0, none, 0, none, 0, p, d⟩).toList
  unfold baCells backE baZero
  dsimp only
  rw [← hl]
  rfl

set_option maxRecDepth 100000 in
set_option maxHeartbeats 1000000 in
theorem ffatal_any (c t : ByteArray) (w : World) (hc : c.size ≤ 10000) (ht : t.size ≤ 10000) : Calls Try.prog 31 #[.string c, .string t] w (BytR (bytesB [backE (makeF ⟨#[70, 65, 84, 65, 76]⟩ c t)]) w) := by
  have HM := Lib.hid (ftold_any ⟨#[70, 65, 84, 65, 76]⟩ c t w (by simp [maxLen, ByteArray.size]) (mx hc) (mx ht))
  unfold faultR at HM
  have HSm := Lib.hid (fun x (h : x ∈ [backE (makeF ⟨#[70, 65, 84, 65, 76]⟩ c t)]) => (by simp only [List.mem_singleton] at h; subst h; exact backE_short (by show 4 ≤ 8; omega) (Small4 (by simp [ByteArray.size]) hc ht) : ShortB x))
  have HS := Lib.hid (fun (w0 : World) p d (h : SliceS 2 FdS (fun j => w.heap.size ≤ j) w0 [.slice p 4 d] (makeF ⟨#[70, 65, 84, 65, 76]⟩ c t)) => bbytes_any _ _ _ _ _ _ (sliceE h (fun _ _ _ => trivial)) (by show 1 ≤ 1000; omega) HSm.out)
  unfold BytR
  generalize bytesB [backE (makeF ⟨#[70, 65, 84, 65, 76]⟩ c t)] = res at *
  generalize makeF ⟨#[70, 65, 84, 65, 76]⟩ c t = fs at *
  clear hc ht
  go_enter Try.func31, Try.ntmps31
  go_wp2_with fail
  refine HM.out.mono ?_
  rintro e w1 ⟨p, d, rfl, hs, hb⟩
  have Hc := Lib.hid (HS.out w1 p d hs)
  have HB := Lib.hid (hb.alloc hb.size (.cells #[.int .u8 69, .int .u8 0, .string ⟨#[]⟩, .string ⟨#[]⟩, .string ⟨#[]⟩, .int .i64 0, .int .i64 0, .slice none 0 0, .slice none 0 0, .slice none 0 0, .slice p 4 d] 33))
  clear hs hb HM HS
  go_wp2_with fail
  refine Hc.out.mono ?_
  rintro e w2 ⟨v2, rfl, ho, hb⟩
  obtain ⟨p2, d2, hv2, -, -, q2, -⟩ := ho.slice
  have Hq := Lib.hid q2
  have HB2 := Lib.hid (HB.out.trans (hb.mono HB.out.size))
  subst hv2
  clear ho hb q2
  go_wp2_with fail
  go_ret
  exact ⟨_, _, rfl, Hq.out, HB2.out⟩

set_option maxRecDepth 100000 in
set_option maxHeartbeats 1000000 in
theorem rffatal_any (c t : ByteArray) (w : World) (hc : c.size ≤ 10000) (ht : t.size ≤ 10000) : Calls Try.prog 32 #[.string c, .string t] w (BytR (bytesB [backE (makeF ⟨#[70, 65, 84, 65, 76]⟩ c t)]) w) := by
  have HM := Lib.hid (rmake_any ⟨#[70, 65, 84, 65, 76]⟩ c t w (by simp [maxLen, ByteArray.size]) (mx hc) (mx ht))
  skip
  have HSm := Lib.hid (fun x (h : x ∈ [backE (makeF ⟨#[70, 65, 84, 65, 76]⟩ c t)]) => (by simp only [List.mem_singleton] at h; subst h; exact backE_short (by show 4 ≤ 8; omega) (Small4 (by simp [ByteArray.size]) hc ht) : ShortB x))
  have HS := Lib.hid (fun (w0 : World) p d (h : SliceS 2 FdS (fun j => w.heap.size ≤ j) w0 [.slice p 4 d] (makeF ⟨#[70, 65, 84, 65, 76]⟩ c t)) => rbbytes_any _ _ _ _ _ _ (sliceE h (fun _ _ _ => trivial)) (by show 1 ≤ 1000; omega) HSm.out)
  unfold BytR
  generalize bytesB [backE (makeF ⟨#[70, 65, 84, 65, 76]⟩ c t)] = res at *
  generalize makeF ⟨#[70, 65, 84, 65, 76]⟩ c t = fs at *
  clear hc ht
  go_enter Try.func32, Try.ntmps32
  go_wp2_with fail
  refine HM.out.mono ?_
  rintro e w1 ⟨p, d, rfl, hs, hb⟩
  have Hc := Lib.hid (HS.out w1 p d hs)
  have HB := Lib.hid (hb.alloc hb.size (.cells #[.int .u8 69, .int .u8 0, .string ⟨#[]⟩, .string ⟨#[]⟩, .string ⟨#[]⟩, .int .i64 0, .int .i64 0, .slice none 0 0, .slice none 0 0, .slice none 0 0, .slice p 4 d] 33))
  clear hs hb HM HS
  go_wp2_with fail
  refine Hc.out.mono ?_
  rintro e w2 ⟨v2, rfl, ho, hb⟩
  obtain ⟨p2, d2, hv2, -, -, q2, -⟩ := ho.slice
  have Hq := Lib.hid q2
  have HB2 := Lib.hid (HB.out.trans (hb.mono HB.out.size))
  subst hv2
  clear ho hb q2
  go_wp2_with fail
  go_ret
  exact ⟨_, _, rfl, Hq.out, HB2.out⟩

/-- Whether fields are too many. -/
def longF (f : FdV) : Bool := decide (1000 < f.text.size)
def farF (l : List FdV) : Bool := decide (50 < l.length) || l.any longF
theorem far1_any (x : FdV) (w : World) : Calls Try.prog 49 #[.agg #[.int .u8 x.code, .string x.text]] w fun e w' => e = .returned (.bool (longF x)) ∧ Below w.heap.size w w' := by
  have HB := Lib.hid ((Below.refl w.heap.size w).alloc (Nat.le_refl _) (.cells #[.int .u8 x.code, .string x.text] 48))
  have Hv : Hid (longF x = decide ((1000 : Int) < (x.text.size : Int))) := Lib.hid (by unfold longF; exact decide_eq_decide.2 (by omega))
  generalize longF x = r at *
  obtain ⟨xc, xt⟩ := x
  dsimp only at *
  go_enter Try.func49, Try.ntmps49
  go_wp2
  go_ret
  exact ⟨ret_bool (by rw [Hv.out]), HB.out⟩
theorem far_any (S : Nat → Prop) (p : Option Addr) (n c : Nat) (l : List FdV) (w : World) (h : SliceS 2 FdS S w [.slice p n c] l) :
    Calls Try.prog 21 #[.slice p n c] w fun e w' => e = .returned (.bool (farF l)) ∧ Below w.heap.size w w' := by
  obtain ⟨rfl, hlc, hcm⟩ := h.len
  unfold maxLen at hcm
  have Hc := Lib.hid (containsFd0 49 longF S p _ c l w h (enter_of Try.func49 (by kernel_rfl) rfl) (fun x w0 _ _ _ _ => far1_any x w0))
  have Hv : Hid (farF l = (decide ((50 : Int) < (l.length : Int)) || l.any longF)) := Lib.hid (by unfold farF; congr 1; exact decide_eq_decide.2 (by omega))
  generalize farF l = v at *
  generalize l.any longF = d at *
  clear h
  by_cases hlen : (50 : Int) < (l.length : Int)
  · rw [decide_eq_true hlen] at Hv
    go_enter Try.func21, Try.ntmps21
    go_wp2
    go_ret
    exact ⟨ret_bool (by rw [Hv.out]; rfl), Below.refl _ _⟩
  · rw [decide_eq_false hlen] at Hv
    go_enter Try.func21, Try.ntmps21
    go_wp2_with fail
    refine Hc.out.mono ?_
    rintro e w1 ⟨rfl, hb⟩
    have Hb := Lib.hid hb
    clear hb
    go_wp2
    go_ret
    exact ⟨ret_bool (by rw [Hv.out]; rfl), Hb.out⟩

end Go.Proofs.Ythhebfknikfleaa
