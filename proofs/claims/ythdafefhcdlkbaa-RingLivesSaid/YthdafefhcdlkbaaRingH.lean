/-
  What the statements of layer 36 keep while they run: a ring, and rows of the call's own beside it.
-/
import Derived.Test.YthdafefhcdlkbaaRingG
import Derived.Test.YthdafefhcdlkbaaRead
namespace Go.Proofs.Ythdafefhcdlkbaa
open Go.RowKit

structure DoL where
  take : Bool
  n : Int
  bytes : List UInt8

def DoR (B : Nat) (w : World) (cs : List Value) (x : DoL) : Prop := ∃ v, cs = [.bool x.take, .int .i64 x.n, v] ∧ BytesR B w [v] x.bytes

theorem DoR.stays : Stays DoR := by
  rintro B w w' cs x ⟨v, h1, h2⟩ hb
  exact ⟨v, h1, BytesR.stays _ _ _ _ _ h2 hb⟩

theorem opens_do : Opens Try.prog 39 DoR := by
  intro H enc w base spare held fuel cs x h
  have S : StructOf Try.prog 39 _ := ⟨Try.underlying39, by kernel_rfl, by kernel_rfl⟩
  have hl := S.len h
  match cs, hl with
  | [c0, c1, c2], _ =>
    obtain ⟨y0, e0⟩ := S.field h 0 _ rfl c0 rfl (opens_bool Try.underlying4)
    obtain ⟨y1, e1, _⟩ := S.field h 1 _ rfl c1 rfl (opens_int Try.underlying3)
    obtain ⟨y2, e2⟩ := S.field h 2 _ rfl c2 rfl (opens_bytes Try.underlying22 Try.underlying5 (by kernel_rfl))
    simp only [BoolR, List.cons.injEq, and_true] at e0 e1
    subst e0 e1
    exact ⟨⟨y0, y1, y2⟩, c2, rfl, e2⟩

theorem opens_dos : Opens Try.prog 32 (SliceR 3 DoR) := opens_slice Try.underlying32 (by kernel_rfl) (by omega) opens_do

theorem OwnB.touch {B : Nat} {w w' : World} {v : Value} {l : List UInt8} {p : Nat → Prop} (h : OwnB B w v l) (ht : Touch p w w') (hp : ∀ k, v.ownBlock = some k → ¬ p k) : OwnB B w' v l := by
  have hlt := h.lt
  refine ⟨h.1, ?_⟩
  rcases h.2 with hn | ⟨g, cap, cur, rfl, h1, h2, h3⟩
  · exact .inl hn
  · exact .inr ⟨g, cap, cur, rfl, h1, (ht.block g (hlt g rfl).2 (hp g rfl)).trans h2, h3⟩

theorem Touch.of_grown {w w' : World} {row : Option Nat} (h : w.grownBy w' row) : Touch (fun i => some i = row) w w' :=
  ⟨h.os, h.tape, h.output, h.size, fun k hk hne => h.block k hk hne⟩

/-- A ring, and two rows beside it. -/
structure St (B : Nat) (w : World) (rb g : Nat) (L : List UInt8) (most : Nat) (vi vo : Value) (li lo : List UInt8) : Prop where
  ring : RingO w rb g L most
  i : OwnB B w vi li
  o : OwnB B w vo lo
  rbB : B ≤ rb
  gB : B ≤ g
  ni : ∀ k, vi.ownBlock = some k → k ≠ rb ∧ k ≠ g
  no : ∀ k, vo.ownBlock = some k → k ≠ rb ∧ k ≠ g
  nio : ∀ k, vi.ownBlock = some k → vo.ownBlock ≠ some k
  all : li = lo ++ L

section
variable {B : Nat} {w w' w'' : World} {rb g : Nat} {L : List UInt8} {most : Nat} {vi vo : Value} {li lo : List UInt8}

theorem St.still (h : St B w rb g L most vi vo li lo) (ht : Touch (fun _ => False) w w') : St B w' rb g L most vi vo li lo :=
  ⟨h.ring.touch ht (fun e => e) (fun e => e), h.i.touch ht (fun _ _ e => e), h.o.touch ht (fun _ _ e => e), h.rbB, h.gB, h.ni, h.no, h.nio, h.all⟩

theorem St.take (h : St B w rb g L most vi vo li lo) (k : Nat) (hr : RingO w' rb g (L.drop k) most) (ht : Touch (fun i => i = rb) w w') {vo' : Value} (hw : w'.grownBy w'' vo.ownBlock)
    (ho : OwnB B w'' vo' (lo ++ L.take k)) (hn : ∀ k, vo'.ownBlock = some k → vo.ownBlock = some k ∨ w'.heap.size ≤ k) : St B w'' rb g (L.drop k) most vi vo' li (lo ++ L.take k) := by
  have hT := Touch.of_grown hw
  have hno := h.no
  have hni := h.ni
  have hlt := h.i.lt
  have hs := ht.size
  have hrl := hr.lt
  have hgl := hr.ltg
  refine ⟨hr.touch hT (fun e => (hno rb e.symm).1 rfl) (fun e => (hno g e.symm).2 rfl), (h.i.touch ht (fun k hk e => (hni k hk).1 e)).touch hT (fun k hk e => h.nio k hk e.symm), ho, h.rbB, h.gB, hni, ?_, ?_, ?_⟩
  · intro k hk
    rcases hn k hk with e | e
    · exact hno k e
    · exact ⟨by omega, by omega⟩
  · intro k hk e
    rcases hn k e with e | e
    · exact h.nio k hk e
    · have := hlt k hk
      omega
  · rw [h.all, List.append_assoc, List.take_append_drop]

theorem St.put (h : St B w rb g L most vi vo li lo) (b : List UInt8) {g' : Nat} (hr : RingO w' rb g' (L ++ b) most) (hg : g' = g ∨ w.heap.size ≤ g') (hB : B ≤ w.heap.size) (ht : Touch (fun i => i = rb ∨ i = g) w w') {vi' : Value} (hw : w'.grownBy w'' vi.ownBlock)
    (hi : OwnB B w'' vi' (li ++ b)) (hn : ∀ k, vi'.ownBlock = some k → vi.ownBlock = some k ∨ w'.heap.size ≤ k) : St B w'' rb g' (L ++ b) most vi' vo (li ++ b) lo := by
  have hT := Touch.of_grown hw
  have hno := h.no
  have hni := h.ni
  have hlti := h.i.lt
  have hlto := h.o.lt
  have hs := ht.size
  have hrl := hr.lt
  have hgl := hr.ltg
  have hni' : ∀ k, vi.ownBlock = some k → k ≠ rb ∧ k ≠ g' := by
    intro k hk
    have := hlti k hk
    have h2 := hni k hk
    exact ⟨h2.1, by rcases hg with e | e <;> omega⟩
  have hno' : ∀ k, vo.ownBlock = some k → k ≠ rb ∧ k ≠ g' := by
    intro k hk
    have := hlto k hk
    have h2 := hno k hk
    exact ⟨h2.1, by rcases hg with e | e <;> omega⟩
  have hgB := h.gB
  refine ⟨hr.touch hT (fun e => (hni' rb e.symm).1 rfl) (fun e => (hni' g' e.symm).2 rfl), hi, (h.o.touch ht (fun k hk e => by have := hno k hk; rcases e with e | e <;> omega)).touch hT (fun k hk e => h.nio k e.symm hk), h.rbB, by rcases hg with e | e <;> omega, ?_, hno', ?_, ?_⟩
  · intro k hk
    rcases hn k hk with e | e
    · exact hni' k e
    · exact ⟨by omega, by omega⟩
  · intro k hk e
    rcases hn k hk with e2 | e2
    · exact h.nio k e2 e
    · have := hlto k e
      omega
  · rw [h.all, List.append_assoc]
end

theorem RingO.len {w : World} {rb g : Nat} {L : List UInt8} {most : Nat} (h : RingO w rb g L most) : L.length ≤ most := by
  obtain ⟨v, bs, a, _, _, _, h3, h4, _⟩ := h
  have := h4.1
  omega

/-- Take, whatever number. -/
theorem take_any (rb g : Nat) (L : List UInt8) (most : Nat) (n : Int) (w : World) (h : RingO w rb g L most) :
    Calls Try.prog 12 #[.pointer (some ⟨rb, 0, none⟩), .int .i64 n] w fun e w' =>
      ∃ k p, k = min n.toNat L.length ∧ e = .returned (.slice p k k) ∧ BytesIn w' p (L.take k) ∧ (L.take k).length = k ∧ RingO w' rb g (L.drop k) most ∧ Touch (fun i => i = rb) w w' := by
  by_cases hz : n ≤ 0 ∨ L.length = 0
  · have hc : w.cell? ⟨rb, 2, none⟩ = some (.int .i64 (L.length : Nat)) := by
      obtain ⟨v, bs, a, hb, _⟩ := h
      exact hb.cell 2
    have hk : min n.toNat L.length = 0 := by omega
    refine (take_none rb L.length n w hc hz).mono ?_
    rintro e w' ⟨rfl, rfl⟩
    exact ⟨0, none, hk.symm, rfl, by rw [List.take_zero]; exact BytesIn.nil _ _, by simp, by rw [List.drop_zero]; exact h, Touch.refl _ _⟩
  · refine (take_some rb g L most n (min n.toNat L.length) w h (by omega) (by omega) (by omega)).mono ?_
    rintro e w' ⟨rfl, hb, hr, ht⟩
    exact ⟨_, _, rfl, rfl, hb.bytesIn 0 _ (fun i hi => by rw [Nat.zero_add]; exact ⟨hi, rfl⟩), by rw [List.length_take]; omega, hr, ht⟩

end Go.Proofs.Ythdafefhcdlkbaa
