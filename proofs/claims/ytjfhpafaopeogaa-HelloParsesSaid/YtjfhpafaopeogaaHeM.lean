/-
  First messages (layer 5): plain laws: what was built is read, what is read has just these bytes.
-/
import Derived.Test.YtjfhpafaopeogaaHeL
namespace Go.Proofs.Ytjfhpafaopeogaa
open Go.RowKit
set_option linter.unusedVariables false
set_option linter.unusedSimpArgs false

theorem indexByte_app : ∀ (A R : List UInt8), (0 : UInt8) ∉ A → Lib.indexByte (A ++ 0 :: R) 0 = (A.length : Int)
  | [], R, _ => by simp [Lib.indexByte]
  | a :: A, R, h => by
    simp only [List.mem_cons, not_or] at h
    have ih := indexByte_app A R h.2
    have ha : (a == 0) = false := by simpa using fun e => h.1 e.symm
    rw [List.cons_append, Lib.indexByte, ha, ih]
    first | (simp; done) | (simp; omega)
theorem indexByte_split : ∀ T : List UInt8, Lib.indexByte T 0 = -1 ∨ ∃ A R, T = A ++ 0 :: R ∧ (0 : UInt8) ∉ A
  | [] => .inl rfl
  | a :: T => by
    by_cases ha : a = 0
    · subst ha
      exact .inr ⟨[], T, rfl, by simp⟩
    · have ha' : (a == 0) = false := by simpa using ha
      rcases indexByte_split T with h | ⟨A, R, rfl, h⟩
      · left
        rw [Lib.indexByte, ha', h]
        rfl
      · exact .inr ⟨a :: A, R, rfl, by simp only [List.mem_cons, not_or]; exact ⟨fun e => ha e.symm, h⟩⟩

theorem strOf_data (s : ByteArray) : strOf s.data.toList = s := by simp [strOf]
theorem data_strOf (l : List UInt8) : (strOf l).data.toList = l := by simp [strOf]
theorem strOf_nil {l : List UInt8} (h : strOf l = ⟨#[]⟩) : l = [] := by
  have := congrArg (fun s => s.data.toList) h
  simpa [data_strOf] using this

theorem text_app (A R : List UInt8) (h : (0 : UInt8) ∉ A) : textOk (A ++ 0 :: R) false = true ∧ textV (A ++ 0 :: R) false = strOf A ∧ (A ++ 0 :: R).drop ((Lib.indexByte (A ++ 0 :: R) 0).toNat + 1) = R := by
  have hi := indexByte_app A R h
  have hok : textOk (A ++ 0 :: R) false = true := by
    unfold textOk
    rw [hi]
    first | (simp; done) | (simp; omega)
  refine ⟨hok, ?_, ?_⟩
  · unfold textV
    rw [hok, hi]
    simp
  · rw [hi]
    simp
theorem text_split {T : List UInt8} (h : textOk T false = true) : ∃ A R, T = A ++ 0 :: R ∧ (0 : UInt8) ∉ A := by
  rcases indexByte_split T with e | e
  · unfold textOk at h
    rw [e] at h
    simp at h
  · exact e

theorem clean_mem {s : ByteArray} (h : cleanB s = true) : (0 : UInt8) ∉ s.data.toList := by
  unfold cleanB at h
  simpa using h
theorem fair_parts {x : PrV} (h : unfairV x = false) : x.name ≠ ⟨#[]⟩ ∧ (0 : UInt8) ∉ x.name.data.toList ∧ (0 : UInt8) ∉ x.value.data.toList := by
  unfold unfairV fairV at h
  simp only [Bool.not_eq_false', Bool.and_eq_true] at h
  obtain ⟨h1, h2, h3⟩ := h
  refine ⟨fun e => ?_, clean_mem h2, clean_mem h3⟩
  rw [str_empty.2 e] at h1
  simp at h1

theorem pairs_back : ∀ (L : List PrV) (n : Nat), L.length < n → L.any unfairV = false → pairsR n (parsB L ++ [0]) false = (L, [], false)
  | [], n + 1, _, _ => by
    obtain ⟨h1, h2, h3⟩ := text_app [] [] (by simp)
    have e : parsB [] ++ [0] = [] ++ 0 :: ([] : List UInt8) := rfl
    rw [e, pairsR, h2, h1, h3]
    rfl
  | x :: L, n + 1, hn, hf => by
    rw [List.any_cons, Bool.or_eq_false_iff] at hf
    obtain ⟨f1, f2, f3⟩ := fair_parts hf.1
    have ih := pairs_back L n (by simpa using hn) hf.2
    have e : parsB (x :: L) ++ [0] = x.name.data.toList ++ 0 :: (x.value.data.toList ++ 0 :: (parsB L ++ [0])) := by simp [parsB, prB]
    obtain ⟨h1, h2, h3⟩ := text_app x.name.data.toList (x.value.data.toList ++ 0 :: (parsB L ++ [0])) f2
    obtain ⟨k1, k2, k3⟩ := text_app x.value.data.toList (parsB L ++ [0]) f3
    rw [strOf_data] at h2 k2
    have hnx : ∀ A B : List UInt8, nx true A B = A := fun _ _ => rfl
    rw [e, pairsR, h2, if_neg f1, h1, h3]
    simp only [hnx, Bool.not_true]
    rw [k1, k2, k3, hnx, Bool.not_true, ih]
termination_by L => L.length

theorem pairs_bytes : ∀ (n : Nat) (T : List UInt8), (pairsR n T false).2.2 = false → (pairsR n T false).2.1 = [] → T = parsB (pairsR n T false).1 ++ [0] ∧ (pairsR n T false).1.any unfairV = false
  | 0, T, h, _ => by simp [pairsR] at h
  | n + 1, T, h1, h2 => by
    by_cases he : textV T false = ⟨#[]⟩
    · rw [pairsR, if_pos he] at h1 h2 ⊢
      dsimp only at h1 h2 ⊢
      have hok : textOk T false = true := by simpa using h1
      obtain ⟨A, R, rfl, hA⟩ := text_split hok
      obtain ⟨t1, t2, t3⟩ := text_app A R hA
      rw [t2] at he
      obtain rfl := strOf_nil he
      rw [t3, hok] at h2
      have h2' : R = [] := h2
      subst h2'
      exact ⟨rfl, rfl⟩
    · have hok := textOk_of he
      obtain ⟨A, R, rfl, hA⟩ := text_split hok
      obtain ⟨t1, t2, t3⟩ := text_app A R hA
      have hnx : ∀ A B : List UInt8, nx true A B = A := fun _ _ => rfl
      rw [pairsR, if_neg he, t1, t2, t3] at h1 h2 ⊢
      simp only [hnx, Bool.not_true] at h1 h2 ⊢
      cases hok2 : textOk R false with
      | false =>
        exfalso
        rw [hok2] at h1
        cases n with
        | zero => simp [pairsR] at h1
        | succ m =>
          have hb : textV (nx false (R.drop ((Lib.indexByte R 0).toNat + 1)) []) true = ⟨#[]⟩ := textV_no (textOk_bad _)
          rw [Bool.not_false, pairsR, if_pos hb, textOk_bad] at h1
          simp at h1
      | true =>
        obtain ⟨A2, R2, rfl, hA2⟩ := text_split hok2
        obtain ⟨u1, u2, u3⟩ := text_app A2 R2 hA2
        rw [u3] at h1 h2 ⊢
        rw [u1] at h1 h2
        rw [u2]
        simp only [hnx, Bool.not_true] at h1 h2 ⊢
        obtain ⟨i1, i2⟩ := pairs_bytes n R2 h1 h2
        refine ⟨?_, ?_⟩
        · have e : parsB (⟨strOf A, strOf A2⟩ :: (pairsR n R2 false).1) ++ [0] = A ++ 0 :: (A2 ++ 0 :: (parsB (pairsR n R2 false).1 ++ [0])) := by simp [parsB, prB, data_strOf]
          rw [e, ← i1]
        · rw [List.any_cons, i2, Bool.or_false]
          rw [t2] at he
          have hA0 : (strOf A).toList.isEmpty = false := by
            cases hh : (strOf A).toList.isEmpty with
            | false => rfl
            | true => exact absurd (str_empty.1 hh) he
          have c1 : cleanB (strOf A) = true := by unfold cleanB; rw [data_strOf]; simpa using hA
          have c2 : cleanB (strOf A2) = true := by unfold cleanB; rw [data_strOf]; simpa using hA2
          unfold unfairV fairV
          dsimp only
          rw [hA0, c1, c2]
          rfl

/-- The bytes of the number of four bytes. -/
theorem putB_be {l : List UInt8} (h : l.length = 4) : putB (be l) 4 4 = l := by
  match l, h with
  | [a, b, c, d], _ =>
    have h0 := putAt_shr (be [a, b, c, d]) 4 0 (by omega) (by omega)
    have h1 := putAt_shr (be [a, b, c, d]) 4 1 (by omega) (by omega)
    have h2 := putAt_shr (be [a, b, c, d]) 4 2 (by omega) (by omega)
    have h3 := putAt_shr (be [a, b, c, d]) 4 3 (by omega) (by omega)
    have ha := a.toNat_lt
    have hb := b.toNat_lt
    have hc := c.toNat_lt
    have hd := d.toNat_lt
    have e0 : putAt (be [a, b, c, d]) 4 0 = a := UInt8.toNat_inj.1 (by simp [be] at h0 ⊢; omega)
    have e1 : putAt (be [a, b, c, d]) 4 1 = b := UInt8.toNat_inj.1 (by simp [be] at h1 ⊢; omega)
    have e2 : putAt (be [a, b, c, d]) 4 2 = c := UInt8.toNat_inj.1 (by simp [be] at h2 ⊢; omega)
    have e3 : putAt (be [a, b, c, d]) 4 3 = d := UInt8.toNat_inj.1 (by simp [be] at h3 ⊢; omega)
    simp only [putB, List.range_succ, List.range_zero, List.nil_append, List.map_append, List.map_cons, List.map_nil, List.cons_append, e0, e1, e2, e3]

theorem rightB_of4 {n : Int} (h : rightB n 4 = true) : n < 4294967296 := by
  simp [rightB, sizedB] at h
  omega
theorem unsig_parts {n : Int} (h : unsigV n = true) : 0 ≤ n ∧ n < 4294967296 := by
  unfold unsigV at h
  simp only [Bool.and_eq_true, decide_eq_true_eq] at h
  exact ⟨h.1, rightB_of4 h.2⟩
theorem unsig_of {n : Int} (h0 : 0 ≤ n) (h1 : n < 4294967296) : unsigV n = true := by
  unfold unsigV
  have := rightB_4 h0 h1
  simp only [Bool.and_eq_true, decide_eq_true_eq]
  exact ⟨h0, this⟩

theorem putV4 (l : List UInt8) {n : Int} (h0 : 0 ≤ n) (h1 : n < 4294967296) : putV l n 4 = l ++ putB n 4 4 := putV_right (z := 4) (rightB_4 h0 h1)

theorem num_app {n : Int} (h0 : 0 ≤ n) (h1 : n < 4294967296) (R : List UInt8) : numOk (putB n 4 4 ++ R) false 4 = true ∧ numV (putB n 4 4 ++ R) false 4 = n ∧ (putB n 4 4 ++ R).drop 4 = R := by
  have hl := putB_length n 4 4
  have hok : numOk (putB n 4 4 ++ R) false 4 = true := by
    unfold numOk
    simp [sizedB, hl]
    omega
  refine ⟨hok, ?_, ?_⟩
  · unfold numV
    rw [if_pos hok]
    have : (putB n 4 4 ++ R).take (4 : Int).toNat = putB n 4 4 := by
      show (putB n 4 4 ++ R).take 4 = _
      rw [List.take_append_of_le_length (by omega), List.take_of_length_le (by omega)]
    rw [this]
    exact be_put4 h0 h1
  · rw [List.drop_append_of_le_length (by omega), List.drop_of_length_le (by omega)]
    rfl
theorem num_split {T : List UInt8} (h : numOk T false 4 = true) : ∃ A R, T = A ++ R ∧ A.length = 4 ∧ numV T false 4 = be A ∧ T.drop 4 = R ∧ T = putB (numV T false 4) 4 4 ++ R ∧ 0 ≤ numV T false 4 ∧ numV T false 4 < 4294967296 := by
  have hl : 4 ≤ T.length := by
    unfold numOk at h
    simp [sizedB] at h
    omega
  have hA : (T.take 4).length = 4 := by rw [List.length_take]; omega
  have hv : numV T false 4 = be (T.take 4) := by unfold numV; rw [if_pos h]; rfl
  have hb := be_bd (T.take 4)
  rw [hA] at hb
  refine ⟨T.take 4, T.drop 4, (List.take_append_drop 4 T).symm, hA, hv, rfl, ?_, ?_, ?_⟩
  · rw [hv, putB_be hA, List.take_append_drop]
  · rw [hv]; exact hb.1
  · rw [hv]; have := hb.2; omega

/-- What was built is read. -/
theorem parse_build {h : HelV} (hm : mayV h = true) : parseV (bodyV h) = (h, 0) := by
  obtain ⟨code, process, secret, params⟩ := h
  have hc := may_code hm
  unfold mayV kindV noneV at hm
  simp only [Bool.and_eq_true, Bool.not_eq_true'] at hm
  obtain ⟨hf, hk⟩ := hm
  dsimp only at hc hf hk
  rcases hc with rfl | rfl | rfl
  · simp at hk
    obtain ⟨rfl, rfl⟩ := hk
    have hb : bodyV ⟨196608, 0, 0, params⟩ = putB 196608 4 4 ++ (parsB params ++ [0]) := by
      unfold bodyV
      dsimp only
      rw [putV4 [] (by omega) (by omega)]
      simp
    obtain ⟨n1, n2, n3⟩ := num_app (n := 196608) (by omega) (by omega) (parsB params ++ [0])
    have hp := pairs_back params ((parsB params ++ [0]).length + 1) (by have := parsB_many params; simp; omega) hf
    have hl : ¬ (putB 196608 4 4 ++ (parsB params ++ [0])).length < 4 := by rw [List.length_append, putB_length]; omega
    rw [hb, parseV, if_neg hl]
    dsimp only
    rw [n2, n3, if_pos rfl, hp]
    simp
  · simp at hk
    obtain ⟨hp0, hu1, hu2⟩ := hk
    subst hp0
    obtain ⟨p0, p1⟩ := unsig_parts hu1
    obtain ⟨s0, s1⟩ := unsig_parts hu2
    have hb : bodyV ⟨80877102, process, secret, []⟩ = putB 80877102 4 4 ++ (putB process 4 4 ++ (putB secret 4 4 ++ [])) := by
      unfold bodyV
      rw [if_pos rfl]
      dsimp only
      rw [putV4 [] (by omega) (by omega), putV4 _ p0 p1, putV4 _ s0 s1]
      simp
    obtain ⟨n1, n2, n3⟩ := num_app (n := 80877102) (by omega) (by omega) (putB process 4 4 ++ (putB secret 4 4 ++ []))
    obtain ⟨a1, a2, a3⟩ := num_app p0 p1 (putB secret 4 4 ++ [])
    obtain ⟨b1, b2, b3⟩ := num_app s0 s1 []
    have hl : ¬ (putB 80877102 4 4 ++ (putB process 4 4 ++ (putB secret 4 4 ++ []))).length < 4 := by rw [List.length_append, putB_length]; omega
    have hnx : ∀ A B : List UInt8, nx true A B = A := fun _ _ => rfl
    rw [hb, parseV, if_neg hl]
    dsimp only
    rw [n2, n3, if_neg (by omega), if_pos rfl, a1, a2, a3, hnx, Bool.not_true, b1, b2, b3]
    simp
  · simp at hk
    obtain ⟨⟨rfl, rfl⟩, rfl⟩ := hk
    have hb : bodyV ⟨80877103, 0, 0, []⟩ = putB 80877103 4 4 ++ [] := by
      unfold bodyV
      dsimp only
      rw [if_neg (by omega), if_neg (by omega), putV4 [] (by omega) (by omega)]
      simp
    obtain ⟨n1, n2, n3⟩ := num_app (n := 80877103) (by omega) (by omega) []
    have hl : ¬ (putB 80877103 4 4 ++ ([] : List UInt8)).length < 4 := by rw [List.length_append, putB_length]; omega
    rw [hb, parseV, if_neg hl]
    dsimp only
    rw [n2, n3, if_neg (by omega), if_neg (by omega), if_pos rfl]
    simp

/-- What is read has just these bytes; or nothing is read. -/
theorem build_parse (l : List UInt8) : ((parseV l).2 = 0 ∧ mayV (parseV l).1 = true ∧ bodyV (parseV l).1 = l) ∨ ((parseV l).2 ≠ 0 ∧ (parseV l).1 = helZero) := by
  have hnx : ∀ A B : List UInt8, nx true A B = A := fun _ _ => rfl
  by_cases h4 : l.length < 4
  · right
    unfold parseV
    rw [if_pos h4]
    exact ⟨by simp, rfl⟩
  · have hok : numOk l false 4 = true := by unfold numOk; simp [sizedB]; omega
    obtain ⟨A, R, _, _, _, hR, hl, hn0, hn1⟩ := num_split hok
    have hd : parseV l = if numV l false 4 = 196608 then
        if (pairsR (R.length + 1) R false).2.2 = false ∧ (pairsR (R.length + 1) R false).2.1 = [] then (⟨numV l false 4, 0, 0, (pairsR (R.length + 1) R false).1⟩, 0) else (helZero, 4)
      else if numV l false 4 = 80877102 then
        if numOk (nx (numOk R false 4) (R.drop 4) []) (!numOk R false 4) 4 = true ∧ (nx (numOk R false 4) (R.drop 4) []).drop 4 = [] then (⟨numV l false 4, numV R false 4, numV (nx (numOk R false 4) (R.drop 4) []) (!numOk R false 4) 4, []⟩, 0) else (helZero, 4)
      else if numV l false 4 = 80877103 then
        if R = [] then (⟨numV l false 4, 0, 0, []⟩, 0) else (helZero, 4)
      else (helZero, 9) := by
      unfold parseV
      rw [if_neg h4]
      dsimp only
      rw [hR]
    generalize hcode : numV l false 4 = code at *
    rw [hd]
    clear hd
    by_cases h1 : code = 196608
    · subst h1
      rw [if_pos rfl]
      by_cases hp : (pairsR (R.length + 1) R false).2.2 = false ∧ (pairsR (R.length + 1) R false).2.1 = []
      · rw [if_pos hp]
        left
        obtain ⟨e1, e2⟩ := pairs_bytes _ _ hp.1 hp.2
        refine ⟨rfl, ?_, ?_⟩
        · unfold mayV kindV noneV
          dsimp only
          rw [e2]
          simp
        · unfold bodyV
          dsimp only
          rw [if_neg (by omega), if_pos rfl, putV4 [] (by omega) (by omega), List.nil_append, List.append_assoc, ← e1, ← hl]
      · rw [if_neg hp]
        right
        exact ⟨by simp, rfl⟩
    · rw [if_neg h1]
      by_cases h2 : code = 80877102
      · subst h2
        rw [if_pos rfl]
        cases hk : numOk R false 4 with
        | false =>
          right
          rw [if_neg (by simp [numOk])]
          exact ⟨by simp, rfl⟩
        | true =>
          obtain ⟨_, S, _, _, _, hS, hRe, p0, p1⟩ := num_split hk
          rw [hnx, hS, Bool.not_true]
          by_cases hq : numOk S false 4 = true ∧ S.drop 4 = []
          · rw [if_pos hq]
            left
            obtain ⟨_, Z, _, _, _, hZ, hSe, s0, s1⟩ := num_split hq.1
            rw [hq.2] at hZ
            subst hZ
            refine ⟨rfl, ?_, ?_⟩
            · unfold mayV kindV
              dsimp only
              rw [unsig_of p0 p1, unsig_of s0 s1]
              simp
            · unfold bodyV
              dsimp only
              rw [if_pos rfl, putV4 [] (by omega) (by omega), putV4 _ p0 p1, putV4 _ s0 s1, List.nil_append, List.append_assoc]
              rw [List.append_nil] at hSe
              rw [← hSe, ← hRe, ← hl]
          · rw [if_neg hq]
            right
            exact ⟨by simp, rfl⟩
      · rw [if_neg h2]
        by_cases h3 : code = 80877103
        · subst h3
          rw [if_pos rfl]
          by_cases hr : R = []
          · rw [if_pos hr]
            left
            subst hr
            refine ⟨rfl, by decide, ?_⟩
            unfold bodyV
            dsimp only
            rw [if_neg (by omega), if_neg (by omega), putV4 [] (by omega) (by omega), List.nil_append]
            rw [List.append_nil] at hl
            exact hl.symm
          · rw [if_neg hr]
            right
            exact ⟨by simp, rfl⟩
        · rw [if_neg h3]
          right
          exact ⟨by simp, rfl⟩

end Go.Proofs.Ytjfhpafaopeogaa
