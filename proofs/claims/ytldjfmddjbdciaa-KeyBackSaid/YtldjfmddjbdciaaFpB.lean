/-
  Messages of clients (layer 6): plain laws: what was made is read, what is read has just these bytes.
-/
import Derived.Test.YtldjfmddjbdciaaFoZ
import Derived.Test.YtldjfmddjbdciaaWire
namespace Go.Proofs.Ytldjfmddjbdciaa
open Go.RowKit
set_option linter.unusedVariables false
set_option linter.unusedSimpArgs false

theorem str_same {a b : ByteArray} (h : (a.toList == b.toList) = true) : a = b := by
  have ha : a = strOf a.data.toList := by simp [strOf]
  have hb : b = strOf b.data.toList := by simp [strOf]
  have e : a.toList = b.toList := by simpa using h
  rw [ha, hb] at e ⊢
  rw [strOf_toList, strOf_toList] at e
  rw [e]
theorem listEq_same {α : Type} {f : α → α → Bool} (hf : ∀ a b, f a b = true → a = b) : ∀ {l m : List α}, listEq f l m = true → l = m
  | [], [], _ => rfl
  | [], b :: m, h => by simp [listEq] at h
  | a :: l, [], h => by simp [listEq] at h
  | a :: l, b :: m, h => by
    simp only [listEq, Bool.and_eq_true] at h
    rw [hf a b h.1, listEq_same hf h.2]
theorem ceEq_same (a b : CeV) (h : ceEq a b = true) : a = b := by
  obtain ⟨an, al⟩ := a
  obtain ⟨bn, bl⟩ := b
  simp [ceEq] at h
  rw [h.1, h.2]
theorem foEq_same {a b : FoV} (h : foEq a b = true) : a = b := by
  unfold foEq headEq at h
  simp only [Bool.and_eq_true] at h
  obtain ⟨⟨h1, h2, h3, h4, h5, h6⟩, k1, k2, k3, k4⟩ := h
  obtain ⟨ak, aw, an, ap, at', ao, af, ar, ac, am⟩ := a
  obtain ⟨bk, bw, bn, bp, bt, bo, bf, br, bc, bm⟩ := b
  have e3 := str_same h3
  have e4 := str_same h4
  have e5 := str_same h5
  have q1 := listEq_same (fun a b h => by simpa [intsEq] using h) k1
  have q2 := listEq_same (fun a b h => by simpa [intsEq] using h) k2
  have q3 := listEq_same (fun a b h => by simpa [intsEq] using h) k3
  have q4 := listEq_same ceEq_same k4
  dsimp only at *
  have e1 : ak = bk := by simpa using h1
  have e2 : aw = bw := by simpa using h2
  have e6 : am = bm := by simpa using h6
  subst e1 e2 e3 e4 e5 e6 q1 q2 q3 q4
  rfl

theorem between_parts {l : List Int} {hi : Int} (h : between l 0 hi = true) : l.length ≤ 65535 ∧ ∀ n ∈ l, 0 ≤ n ∧ n < hi + 1 := by
  unfold between at h
  simp only [Bool.and_eq_true, decide_eq_true_eq, Bool.not_eq_true', List.any_eq_false] at h
  refine ⟨h.1, fun n hn => ?_⟩
  have := h.2 n hn
  unfold outside at this
  simp at this
  omega
theorem values_parts {l : List CeV} (h : valuesV l = true) : l.length ≤ 65535 ∧ ∀ c ∈ l, rightC c := by
  unfold valuesV at h
  simp only [Bool.and_eq_true, decide_eq_true_eq, Bool.not_eq_true', List.any_eq_false] at h
  refine ⟨h.1, fun c hc => ?_⟩
  have := h.2 c hc
  unfold wrongC at this
  simp at this
  refine ⟨fun e => ?_, by omega⟩
  have h2 := this.1 e
  simpa using h2

theorem ok_parts {f : FoV} (h : okF f = true) : whatV f = true ∧ (f.oids.length ≤ 65535 ∧ ∀ n ∈ f.oids, 0 ≤ n ∧ n < 2 ^ (8 * 4)) ∧ (f.formats.length ≤ 65535 ∧ ∀ n ∈ f.formats, 0 ≤ n ∧ n < 2 ^ (8 * 2)) ∧ (f.results.length ≤ 65535 ∧ ∀ n ∈ f.results, 0 ≤ n ∧ n < 2 ^ (8 * 2)) ∧ (f.params.length ≤ 65535 ∧ ∀ c ∈ f.params, rightC c) ∧
    cleanB f.name = true ∧ cleanB f.portal = true ∧ cleanB f.text = true ∧ (-2147483648 ≤ f.max ∧ f.max < 2147483648) ∧ f = keptV f := by
  unfold okF listsV textsV maxV at h
  simp only [Bool.and_eq_true, decide_eq_true_eq] at h
  obtain ⟨h1, ⟨h2, h3, h4, h5⟩, ⟨h6, h7, h8⟩, h9, h10⟩ := h
  exact ⟨h1, between_parts h2, between_parts h3, between_parts h4, values_parts h5, h6, h7, h8, h9, foEq_same h10⟩
theorem check_ok {f : FoV} (h : checkF f = 0) : knownV f.kind = 1 ∧ okF f = true := by
  unfold checkF at h
  split at h
  · rename_i h1
    split at h
    · rename_i h2
      exact ⟨h1, h2⟩
    · omega
  · omega
theorem known_kinds {k : Int} (h : knownV k = 1) : k = 80 ∨ k = 66 ∨ (k = 67 ∨ k = 68) ∨ k = 69 ∨ k = 81 ∨ (k = 72 ∨ k = 83 ∨ k = 88) := by
  unfold knownV at h
  split at h
  · rename_i hk
    simp at hk
    omega
  · split at h <;> omega

/-- The body of each kind in pieces. -/
def bodyC (f : FoV) : List UInt8 :=
  if f.kind = 80 then strP f.name ++ (strP f.text ++ listC 4 f.oids)
  else if f.kind = 66 then strP f.portal ++ (strP f.name ++ (listC 2 f.formats ++ (rowC f.params ++ listC 2 f.results)))
  else if f.kind = 67 ∨ f.kind = 68 then putB f.what 1 1 ++ strP (if f.what = 83 then f.name else f.portal)
  else if f.kind = 69 then strP f.portal ++ putB f.max 4 4
  else if f.kind = 81 then strP f.text
  else []
theorem byte_put {n : Int} (h0 : 0 ≤ n) (h1 : n < 256) : [UInt8.ofNat n.toNat] = putB n 1 1 := by
  have h := putAt_shr n 1 0 (.inl rfl) (by omega)
  simp only [putB, List.range_succ, List.range_zero, List.nil_append, List.map_cons, List.map_nil]
  congr 1
  apply UInt8.toNat_inj.1
  simp at h ⊢
  omega
theorem bodyF_c {f : FoV} (hw : 0 ≤ f.what ∧ f.what < 256) (ho : f.oids.length ≤ 65535 ∧ ∀ n ∈ f.oids, 0 ≤ n ∧ n < 2 ^ (8 * 4)) (hf : f.formats.length ≤ 65535 ∧ ∀ n ∈ f.formats, 0 ≤ n ∧ n < 2 ^ (8 * 2))
    (hr : f.results.length ≤ 65535 ∧ ∀ n ∈ f.results, 0 ≤ n ∧ n < 2 ^ (8 * 2)) (hp : f.params.length ≤ 65535 ∧ ∀ c ∈ f.params, rightC c) (hm : -2147483648 ≤ f.max ∧ f.max < 2147483648) : bodyF f = bodyC f := by
  unfold bodyF bodyC
  split
  · have := listB_c (strB (strB [] f.name) f.text) f.oids (z := 4) (.inr (.inr rfl)) ho.1 ho.2
    rw [this, strB_p, strB_p, List.nil_append, List.append_assoc]
  split
  · rw [listB_c _ _ (.inr (.inl rfl)) hr.1 hr.2, rowB_c _ _ hp.1 hp.2, listB_c _ _ (.inr (.inl rfl)) hf.1 hf.2, strB_p, strB_p, List.nil_append]
    simp only [List.append_assoc]
  split
  · rw [strB_p, byte_put hw.1 hw.2]
  split
  · have h4 : rightB f.max (4 : Nat) = true := by simp [rightB, sizedB]; omega
    have e : putV (strB [] f.portal) f.max 4 = strB [] f.portal ++ putB f.max 4 4 := putV_right (z := 4) h4
    rw [e, strB_p, List.nil_append]
  split
  · rw [strB_p, List.nil_append]
  · rfl

theorem signed_back {n : Int} (h0 : -2147483648 ≤ n) (h1 : n < 2147483648) : signedV (n % 2 ^ (8 * 4)) 4 = n := by
  unfold signedV
  have hs : sizedB 4 = true := by decide
  rw [hs]
  have e1 : (2 : Int) ^ (8 * (4 : Int).toNat) = 4294967296 := by decide
  have e2 : (2 : Int) ^ (8 * 4) = 4294967296 := by decide
  rw [e1, e2]
  simp only [true_and]
  split <;> omega
/-- What was made is read. -/
theorem read_body {f : FoV} (hb : FoB f) (hc : checkF f = 0) : readP f.kind (bodyF f) = some (f, []) := by
  obtain ⟨hk, hok⟩ := check_ok hc
  obtain ⟨hw, ho, hf, hr, hp, t1, t2, t3, hm, hkp⟩ := ok_parts hok
  obtain ⟨_, _, hw0, hw1⟩ := hb
  rw [bodyF_c ⟨hw0, hw1⟩ ho hf hr hp hm]
  obtain ⟨k, wh, n, p, t, o, fs, r, c, m⟩ := f
  dsimp only at *
  unfold keptV at hkp
  dsimp only at hkp
  unfold readP bodyC
  dsimp only
  rcases known_kinds hk with rfl | rfl | hk2 | rfl | rfl | hk3
  · simp at hkp
    obtain ⟨rfl, rfl, rfl, rfl, rfl, rfl⟩ := hkp
    rw [if_pos rfl, if_pos rfl, textQ_in t1]
    show (textQ (strP t ++ listC 4 o)).bind _ = _
    rw [textQ_in t3]
    show (listQ 4 (listC 4 o)).bind _ = _
    have := listQ_in (z := 4) (.inr (.inr rfl)) o [] ho.1 ho.2
    rw [List.append_nil] at this
    rw [this]
    rfl
  · simp at hkp
    obtain ⟨rfl, rfl, rfl, rfl⟩ := hkp
    rw [if_neg (by decide), if_pos rfl, if_neg (by decide), if_pos rfl, textQ_in t2]
    show (textQ (strP n ++ _)).bind _ = _
    rw [textQ_in t1]
    show (listQ 2 (listC 2 fs ++ _)).bind _ = _
    rw [listQ_in (.inr (.inl rfl)) fs _ hf.1 hf.2]
    show (rowQ (rowC c ++ _)).bind _ = _
    rw [rowQ_in c _ hp.1 hp.2]
    show (listQ 2 (listC 2 r)).bind _ = _
    have := listQ_in (z := 2) (.inr (.inl rfl)) r [] hr.1 hr.2
    rw [List.append_nil] at this
    rw [this]
    rfl
  · have n1 : ¬ k = 80 := by omega
    have n2 : ¬ k = 66 := by omega
    rw [if_neg n1, if_neg n2, if_pos hk2, if_neg n1, if_neg n2, if_pos hk2, numP_in (.inl rfl) hw0 hw1]
    rw [if_neg n1, if_neg n2, if_pos hk2] at hkp
    by_cases hws : wh = 83
    · subst hws
      simp at hkp
      obtain ⟨rfl, rfl, rfl, rfl, rfl, rfl, rfl⟩ := hkp
      show (textQ (strP n)).bind _ = _
      have := textQ_in t1 []
      rw [List.append_nil] at this
      rw [this]
      rfl
    · rw [if_neg hws] at hkp
      simp at hkp
      obtain ⟨rfl, rfl, rfl, rfl, rfl, rfl, rfl⟩ := hkp
      rw [if_neg hws]
      show (textQ (strP p)).bind _ = _
      have := textQ_in t2 []
      rw [List.append_nil] at this
      rw [this]
      show some ((if wh = 83 then _ else _), _) = _
      rw [if_neg hws]
      rfl
  · simp at hkp
    obtain ⟨rfl, rfl, rfl, rfl, rfl, rfl, rfl⟩ := hkp
    rw [if_neg (by decide), if_neg (by decide), if_neg (by decide), if_pos rfl, if_neg (by decide), if_neg (by decide), if_neg (by decide), if_pos rfl, textQ_in t2]
    dsimp only [Option.bind_some]
    have := numP_put (z := 4) (.inr (.inr rfl)) m []
    rw [List.append_nil] at this
    rw [this]
    show some (({ foZero 69 with portal := p, max := signedV (m % 2 ^ (8 * 4)) 4 } : FoV), _) = _
    rw [signed_back hm.1 hm.2]
    rfl
  · simp at hkp
    obtain ⟨rfl, rfl, rfl, rfl, rfl, rfl, rfl, rfl⟩ := hkp
    rw [if_neg (by decide), if_neg (by decide), if_neg (by decide), if_neg (by decide), if_pos rfl, if_neg (by decide), if_neg (by decide), if_neg (by decide), if_neg (by decide), if_pos rfl]
    have := textQ_in t3 []
    rw [List.append_nil] at this
    rw [this]
    rfl
  · have n1 : ¬ k = 80 := by omega
    have n2 : ¬ k = 66 := by omega
    have n3 : ¬ (k = 67 ∨ k = 68) := by omega
    have n4 : ¬ k = 69 := by omega
    have n5 : ¬ k = 81 := by omega
    rw [if_neg n1, if_neg n2, if_neg n3, if_neg n4, if_neg n5] at hkp
    rw [if_neg n1, if_neg n2, if_neg n3, if_neg n4, if_neg n5, if_neg n1, if_neg n2, if_neg n3, if_neg n4, if_neg n5]
    simp at hkp
    obtain ⟨rfl, rfl, rfl, rfl, rfl, rfl, rfl, rfl, rfl⟩ := hkp
    rfl

/-- What is read, and may be, has just these bytes. -/
theorem body_read {k : Int} {L : List UInt8} {f : FoV} (h : readP k L = some (f, [])) (hc : checkF f = 0) : bodyF f = L := by
  have hs := readP_small h
  obtain ⟨hk, hok⟩ := check_ok hc
  obtain ⟨hw, ho, hf, hr, hp, t1, t2, t3, hm, hkp⟩ := ok_parts hok
  have hkk := hs.kind
  rw [bodyF_c hs.what ho hf hr hp hm]
  subst hkk
  clear hs hc hok hw ho hf hr hp t1 t2 t3 hkp
  unfold readP at h
  unfold bodyC
  rcases known_kinds hk with e | e | e | e | e | e
  · rw [if_pos e] at h ⊢
    obtain ⟨⟨n, L1⟩, e1, h⟩ := bind_some h
    obtain ⟨⟨t, L2⟩, e2, h⟩ := bind_some h
    obtain ⟨⟨o, L3⟩, e3, h⟩ := bind_some h
    injection h with h; injection h with h h'
    dsimp only at h' e2 e3
    subst h'
    rw [← h]
    show strP n ++ (strP t ++ listC 4 o) = L
    have q3 := (listQ_out (.inr (.inr rfl)) e3).1
    rw [List.append_nil] at q3
    rw [(textQ_out e1).1, (textQ_out e2).1, q3]
  · rw [if_neg (by omega), if_pos e] at h ⊢
    obtain ⟨⟨p, L1⟩, e1, h⟩ := bind_some h
    obtain ⟨⟨n, L2⟩, e2, h⟩ := bind_some h
    obtain ⟨⟨fs, L3⟩, e3, h⟩ := bind_some h
    obtain ⟨⟨c, L4⟩, e4, h⟩ := bind_some h
    obtain ⟨⟨r, L5⟩, e5, h⟩ := bind_some h
    injection h with h; injection h with h h'
    dsimp only at h' e2 e3 e4 e5
    subst h'
    rw [← h]
    show strP p ++ (strP n ++ (listC 2 fs ++ (rowC c ++ listC 2 r))) = L
    have q5 := (listQ_out (.inr (.inl rfl)) e5).1
    rw [List.append_nil] at q5
    rw [(textQ_out e1).1, (textQ_out e2).1, (listQ_out (.inr (.inl rfl)) e3).1, (rowQ_out e4).1, q5]
  · have n1 : ¬ f.kind = 80 := by omega
    have n2 : ¬ f.kind = 66 := by omega
    rw [if_neg n1, if_neg n2, if_pos e] at h ⊢
    obtain ⟨⟨x, L1⟩, e1, h⟩ := bind_some h
    obtain ⟨⟨n, L2⟩, e2, h⟩ := bind_some h
    injection h with h; injection h with h h'
    dsimp only at h' e2 h
    subst h'
    have q2 := (textQ_out e2).1
    rw [List.append_nil] at q2
    have q1 := (numP_out (.inl rfl) e1).1
    split at h
    · rename_i hx
      rw [← h]
      show putB x 1 1 ++ strP (if x = 83 then n else _) = L
      rw [if_pos hx, q1, q2]
    · rename_i hx
      rw [← h]
      show putB x 1 1 ++ strP (if x = 83 then _ else n) = L
      rw [if_neg hx, q1, q2]
  · have n1 : ¬ f.kind = 80 := by omega
    have n2 : ¬ f.kind = 66 := by omega
    have n3 : ¬ (f.kind = 67 ∨ f.kind = 68) := by omega
    rw [if_neg n1, if_neg n2, if_neg n3, if_pos e] at h ⊢
    obtain ⟨⟨p, L1⟩, e1, h⟩ := bind_some h
    obtain ⟨⟨m, L2⟩, e2, h⟩ := bind_some h
    injection h with h; injection h with h h'
    dsimp only at h' e2 h
    subst h'
    obtain ⟨q1, q2, q3⟩ := numP_out (.inr (.inr rfl)) e2
    rw [List.append_nil] at q1
    rw [← h] at hm ⊢
    show strP p ++ putB (signedV m 4) 4 4 = L
    have hx : putB (signedV m 4) 4 4 = putB m 4 4 := by
      have q3' : m < 4294967296 := q3
      have e1 : (2 : Int) ^ (8 * (4 : Int).toNat) = 4294967296 := by decide
      have hq : (signedV m 4) % 4294967296 = m % 4294967296 := by
        unfold signedV
        rw [e1]
        split <;> omega
      unfold putB
      congr 1
      funext j
      unfold putAt
      rw [hq]
    rw [hx, (textQ_out e1).1, q1]
  · rw [if_neg (by omega), if_neg (by omega), if_neg (by omega), if_neg (by omega), if_pos e] at h ⊢
    obtain ⟨⟨t, L1⟩, e1, h⟩ := bind_some h
    injection h with h; injection h with h h'
    dsimp only at h' h
    subst h'
    rw [← h]
    show strP t = L
    have q1 := (textQ_out e1).1
    rw [List.append_nil] at q1
    exact q1.symm
  · rw [if_neg (by omega), if_neg (by omega), if_neg (by omega), if_neg (by omega), if_neg (by omega)] at h ⊢
    injection h with h; injection h with h h'
    exact h'.symm

theorem known_dec {k : Int} {L : List UInt8} : (decF k L).2 = 0 ∧ checkF (decF k L).1 = 0 ∧ (decF k L).1.kind = k ∧ bodyF (decF k L).1 = L ∨ (decF k L).2 ≠ 0 ∧ (decF k L).1 = foZero 0 := by
  unfold decF
  split
  · exact .inr ⟨by decide, rfl⟩
  split
  · exact .inr ⟨by decide, rfl⟩
  split
  · rename_i f hf
    split
    · rename_i hc
      exact .inl ⟨rfl, hc, (readP_small hf).kind, body_read hf hc⟩
    · exact .inr ⟨by decide, rfl⟩
  · exact .inr ⟨by decide, rfl⟩
theorem dec_enc {f : FoV} (hb : FoB f) (hc : checkF f = 0) : decF f.kind (bodyF f) = (f, 0) := by
  have hk := (check_ok hc).1
  unfold decF
  rw [if_neg (by omega), if_neg (by omega), read_body hb hc]
  dsimp only
  rw [if_pos hc]

end Go.Proofs.Ytldjfmddjbdciaa
