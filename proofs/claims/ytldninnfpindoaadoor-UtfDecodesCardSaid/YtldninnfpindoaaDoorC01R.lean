/-
  Chapter 01: proofs of the conditions, second part. Conditions: none.
-/
import Derived.Test.YtldninnfpindoaaDoorC01Q
namespace Go.Fr.C01
open Go Go.Fr Go.Proofs

theorem utf_enc (x : Int) : Utf8.encode x = encB x := by
  unfold Utf8.encode encB
  by_cases h : uSize x = 0
  · have hv : Utf8.valid x = false := by
      cases hh : Utf8.valid x with
      | false => rfl
      | true =>
        exfalso
        rw [valid_iff] at hh
        unfold uSize at h
        repeat' split at h
        all_goals omega
    rw [if_pos h, hv]
    rfl
  · have hv : Utf8.valid x = true := by
      rw [valid_iff]
      unfold uSize at h
      repeat' split at h
      all_goals omega
    rw [if_neg h, hv]
    obtain ⟨m, rfl⟩ : ∃ m : Nat, x = (m : Int) := ⟨x.toNat, by have := uSize_bd (r := x) rfl h; omega⟩
    simp only [if_true, toNat_cast]
    have q : ∀ (n : Int) (k : Nat), n = (k : Int) → UInt8.ofNat n.toNat = UInt8.ofNat k := fun n k e => by rw [e]; rfl
    rcases size_cases (m : Int) with e | e | e | e | e
    · exact absurd e h
    · have := uSize_1.1 e
      rw [if_pos (by omega), e]
      show _ = ByteArray.mk ([UInt8.ofNat (m : Int).toNat].toArray)
      rfl
    · have := uSize_2.1 e
      rw [if_neg (by omega), if_pos (by omega), e]
      show _ = ByteArray.mk ([UInt8.ofNat (192 + (m : Int) / 64).toNat, UInt8.ofNat (128 + (m : Int) % 64).toNat].toArray)
      rw [q _ (192 + m / 64) (by omega), q _ (128 + m % 64) (by omega)]
    · have := uSize_3.1 e
      rw [if_neg (by omega), if_neg (by omega), if_pos (by omega), e]
      show _ = ByteArray.mk ([UInt8.ofNat (224 + (m : Int) / 4096).toNat, UInt8.ofNat (128 + (m : Int) / 64 % 64).toNat, UInt8.ofNat (128 + (m : Int) % 64).toNat].toArray)
      rw [q _ (224 + m / 4096) (by omega), q _ (128 + m / 64 % 64) (by omega), q _ (128 + m % 64) (by omega)]
    · have := uSize_4.1 e
      rw [if_neg (by omega), if_neg (by omega), if_neg (by omega), e]
      show _ = ByteArray.mk ([UInt8.ofNat (240 + (m : Int) / 262144).toNat, UInt8.ofNat (128 + (m : Int) / 4096 % 64).toNat, UInt8.ofNat (128 + (m : Int) / 64 % 64).toNat, UInt8.ofNat (128 + (m : Int) % 64).toNat].toArray)
      rw [q _ (240 + m / 262144) (by omega), q _ (128 + m / 4096 % 64) (by omega), q _ (128 + m / 64 % 64) (by omega), q _ (128 + m % 64) (by omega)]
theorem bytesOf_str (s : ByteArray) : bytesOf (strBytes s) = s := by
  apply toList_inj
  rw [← strBytes_inj, strBytes_of]
  intro x hx
  obtain ⟨k, hk, rfl⟩ := List.getElem_of_mem hx
  have hks : k < s.size := by rw [strBytes_len] at hk; exact hk
  have := strBytes_get s k hks
  rw [List.getElem?_eq_getElem hk] at this
  injection this with this
  rw [this]
  have := byt_lt s k
  omega
theorem right_0 {x : Int} (h : right x = false) : uSize x = 0 := by
  rw [right_no] at h
  unfold uSize
  rw [if_pos (by omega)]
theorem encB_bad {x : Int} (h : right x = false) : encB 65533 = encB x := by
  unfold encB
  rw [if_pos (right_0 h)]
  rfl
theorem p12 : vc12 := by
  unfold vc12
  simp only [eq_self, true_and, and_true, decide_eq_true_eq, decide_eq_false_iff_not, beq_iff_eq, beq_eq_false_iff_ne, bne_iff_ne, bne_eq_false_iff_eq, Bool.not_eq_true', Bool.not_eq_false', ne_eq, imp_true_iff, implies_true]
  rintro ⟨l, ⟨⟩⟩
  simp only
  intro hl
  rw [d21, maxLen_eq]
  refine ⟨fun z => ∃ k : Nat, k ≤ l.length ∧ z.2.1 = (k : Int) ∧ z.1 = strBytes (encode (l.take k)), fun z => l.length - z.2.1.toNat, ⟨0, Nat.zero_le _, rfl, rfl⟩, ?_⟩
  rintro a i ⟨k, hk, hi, ha⟩
  simp only at hi ha
  subst hi ha
  refine ⟨fun h => ?_, fun h => ?_⟩
  · have hlt : k < l.length := by omega
    have hw : IntKind.i64.wrap ((k : Int) + 1) = ((k + 1 : Nat) : Int) := wrap_succ (by omega)
    have el := encode_len l k hk
    have et := encode_take hlt
    rw [toNat_cast, hw, utf_enc, utf_enc]
    generalize l.getD k 0 = x at *
    have es := encB_size x
    have e6 := encB_size 65533
    have hdec : l.length - (((k + 1 : Nat) : Int)).toNat < l.length - (k : Int).toNat := by rw [toNat_cast, toNat_cast]; omega
    simp only [strBytes_len]
    refine ⟨by omega, fun g => ⟨by omega, by omega, ⟨k + 1, hlt, rfl, ?_⟩, hdec⟩, fun g => ⟨by omega, by omega, ⟨k + 1, hlt, rfl, ?_⟩, hdec⟩⟩
    · rw [encB_bad g, ← strBytes_append, et]
    · rw [← strBytes_append, et]
  · have : k = l.length := by omega
    subst this
    rw [List.take_length, bytesOf_str]
theorem p14 : vc14 := by
  unfold vc14
  simp only [eq_self, true_and, and_true, decide_eq_true_eq, decide_eq_false_iff_not, beq_iff_eq, beq_eq_false_iff_ne, bne_iff_ne, bne_eq_false_iff_eq, Bool.not_eq_true', Bool.not_eq_false', ne_eq, imp_true_iff, implies_true]
  rintro ⟨s, ⟨⟩⟩
  simp only
  intro hl
  rw [maxLen_eq]
  refine ⟨fun z => z.1 ++ decAt s z.2.1 = decodeL s ∧ z.1.length ≤ z.2.1 ∧ z.2.1 ≤ s.size, fun z => s.size - z.2.1, ⟨rfl, Nat.le_refl _, Nat.zero_le _⟩, ?_⟩
  rintro a p ⟨hs, hlen, hp⟩
  simp only at hs hlen hp
  have e2 : ∀ c : Int, [c].length = 1 := fun _ => rfl
  refine ⟨fun h => ⟨fun _ => ?_, (fun h => by cases h)⟩, fun h => ⟨(fun h => by cases h), fun _ => ?_⟩⟩
  · have wd := decode_width s p h
    rw [e2]
    refine ⟨by omega, by omega, ⟨?_, ?_, by simp only; omega⟩, by simp only; omega⟩
    · rw [decAt_step h] at hs
      simp only [List.append_assoc, List.cons_append, List.nil_append]
      exact hs
    · simp only [List.length_append, List.length_cons, List.length_nil]; omega
  · rw [decAt_end (by omega), List.append_nil] at hs
    exact hs
theorem p11 : vc11 := by
  unfold vc11
  simp only [eq_self, true_and, and_true, decide_eq_true_eq, decide_eq_false_iff_not, beq_iff_eq, beq_eq_false_iff_ne, bne_iff_ne, bne_eq_false_iff_eq, Bool.not_eq_true', Bool.not_eq_false', ne_eq, imp_true_iff, implies_true]
  intro x _
  unfold sizeR
  refine ⟨fun h => by rw [if_pos h], fun h => by rw [if_neg h]⟩
theorem beq_good (s t : ByteArray) : (s.toList == t.toList) = decide (s.toList = t.toList) := by
  rw [Bool.eq_iff_iff, beq_iff_eq, decide_eq_true_eq]
theorem p15 : vc15 := by
  rintro ⟨s, ⟨⟩⟩
  simp only
  intro hl
  have := decL_len s
  exact ⟨by omega, by omega, rfl⟩
theorem p16 : vc16 := by
  rintro ⟨s, ⟨⟩⟩
  simp only
  intro hl
  exact ⟨hl, beq_good _ _⟩
theorem p20 : vc20 := by
  rintro ⟨s, ⟨⟩⟩
  simp only
  intro hl
  have := decL_len s
  exact ⟨by omega, by omega, beq_good _ _⟩
theorem p17 : vc17 := by
  unfold vc17
  simp only [eq_self, true_and, and_true, decide_eq_true_eq, decide_eq_false_iff_not, beq_iff_eq, beq_eq_false_iff_ne, bne_iff_ne, bne_eq_false_iff_eq, Bool.not_eq_true', Bool.not_eq_false', ne_eq, imp_true_iff, implies_true]
  rintro ⟨a, b, ⟨⟩⟩
  simp only
  rintro ⟨la, lb⟩
  rw [maxLen_eq] at la lb
  rw [d21]
  refine ⟨fun z => ∃ k : Nat, k ≤ a.length ∧ z.1 = (k : Int) ∧ k ≤ b.length ∧ ∀ j, j < k → a.getD j 0 = b.getD j 0, fun z => a.length - z.1.toNat, ⟨0, Nat.zero_le _, rfl, Nat.zero_le _, fun j hj => absurd hj (Nat.not_lt_zero j)⟩, ?_⟩
  rintro i ⟨k, hk, hi, hkb, hs⟩
  simp only at hi
  subst hi
  rw [toNat_cast]
  have no : ∀ {p : Prop} [Decidable p], ¬ p → false = decide p := fun h => (decide_eq_false h).symm
  refine ⟨fun h => ⟨fun h2 => no fun e => ?_, fun h2 => ⟨by omega, by omega, fun h3 => no fun e => h3 (by rw [e]), fun h3 => ?_⟩⟩, fun h => ?_⟩
  · have := congrArg List.length e; omega
  · have hlt : k < a.length := by omega
    have hw : IntKind.i64.wrap ((k : Int) + 1) = ((k + 1 : Nat) : Int) := wrap_succ (by omega)
    rw [hw]
    refine ⟨⟨k + 1, hlt, rfl, by omega, fun j hj => ?_⟩, ?_⟩
    · by_cases e : j = k
      · subst e; exact h3
      · exact hs j (by omega)
    · show a.length - (((k + 1 : Nat) : Int)).toNat < a.length - (k : Int).toNat
      rw [toNat_cast, toNat_cast]; omega
  · have : k = a.length := by omega
    subst this
    rw [Bool.eq_iff_iff, beq_iff_eq, decide_eq_true_eq]
    constructor
    · intro e
      apply List.ext_getElem (by omega)
      intro j h1 h2
      have := hs j h1
      rwa [getD_of _ h1, getD_of _ h2] at this
    · intro e; rw [e]
theorem byt_extract (s : ByteArray) (i k : Nat) (hi : i ≤ s.size) : byt (s.extract i s.size) k = byt s (i + k) := by
  by_cases h : i + k < s.size
  · exact extract_byt s i s.size k h (Nat.le_refl _)
  · rw [byt_over (s := s) (by omega), byt_over (by rw [ByteArray.size_extract]; omega)]
theorem p21 : vc21 := by
  unfold vc21
  simp only [eq_self, true_and, and_true, decide_eq_true_eq, decide_eq_false_iff_not, beq_iff_eq, beq_eq_false_iff_ne, bne_iff_ne, bne_eq_false_iff_eq, Bool.not_eq_true', Bool.not_eq_false', ne_eq, imp_true_iff, implies_true]
  rintro ⟨s, at_, ⟨⟩⟩
  simp only
  intro hl
  rw [maxLen_eq] at hl
  refine ⟨fun h => by unfold uStep; rw [if_pos (by omega)], fun h => ⟨fun h2 => by unfold uStep; rw [if_pos (by omega)], fun h2 => ?_⟩⟩
  obtain ⟨i, rfl⟩ : ∃ i : Nat, at_ = i := ⟨at_.toNat, by omega⟩
  have hi : i < s.size := by omega
  rw [uStep_in hi, toNat_cast]
  have hz : (s.extract i s.size).size = s.size - i := by rw [ByteArray.size_extract]; omega
  have hd : Utf8.decode (s.extract i s.size) 0 = Utf8.decode s i := decode_congr (fun k => by rw [Nat.zero_add, byt_extract s i k (by omega)]) (fun k => by rw [hz]; omega)
  have wd := decode_width (s.extract i s.size) 0 (by omega)
  rw [← hd]
  generalize s.extract i s.size = t at *
  have w1 : IntKind.i64.wrap ((s.size : Int) - (i : Int)) = ((s.size - i : Nat) : Int) := by rw [wrap_eq]; omega
  rw [w1]
  refine ⟨by omega, fun z => z.2.1 = 0 ∨ (z.2.1 = (Utf8.decode t 0).2 ∧ z.1 = ((Utf8.decode t 0).1 : Int)), fun z => t.size - z.2.1, .inl rfl, ?_⟩
  rintro a p hp
  simp only at hp
  refine ⟨fun g => ⟨fun _ => ⟨fun g2 => ?_, fun g2 => ?_⟩, (fun h => by cases h)⟩, fun g => ⟨(fun h => by cases h), fun _ => ?_⟩⟩
  · rcases hp with e | ⟨e1, e2⟩
    · omega
    · rw [e1, e2]
  · have e : p = 0 := by omega
    subst e
    refine ⟨.inr ⟨by simp only; omega, rfl⟩, by simp only; omega⟩
  · rcases hp with e | ⟨e1, e2⟩
    · omega
    · rw [e2]
      simp only [Prod.mk.injEq, and_true, true_and]
      omega
theorem p9 : vc9 := by
  have e1 : decodeL { data := #[(97 : UInt8), (255 : UInt8), (195 : UInt8), (169 : UInt8)] } = [(97 : Int), (65533 : Int), (233 : Int)] := by kernel_rfl
  have e2 : good { data := #[(255 : UInt8)] } = false := by kernel_rfl
  have e3 : sizeR 233 = 2 := by kernel_rfl
  intro x _
  rw [e1, e2, e3]
  have e4 : ByteArray.size { data := #[(97 : UInt8), (255 : UInt8), (195 : UInt8), (169 : UInt8)] } = 4 := rfl
  have e5 : ByteArray.size { data := #[(255 : UInt8)] } = 1 := rfl
  rw [e4, e5, maxLen_eq]
  simp
theorem sum_size {l : List Int} {k : Nat} (h : k < l.length) : ((encode (l.take (k + 1))).size : Int) = (encode (l.take k)).size + sizeR (l.getD k 0) := by
  rw [encode_take h, ByteArray.size_append, ← encB_len]
  omega
theorem p3 : vc3 := by
  unfold vc3
  simp only [eq_self, true_and, and_true, decide_eq_true_eq, decide_eq_false_iff_not, beq_iff_eq, beq_eq_false_iff_ne, bne_iff_ne, bne_eq_false_iff_eq, Bool.not_eq_true', Bool.not_eq_false', ne_eq, imp_true_iff, implies_true]
  rintro ⟨l, ⟨⟩⟩
  simp only
  intro hl h1
  rw [d21]
  refine ⟨fun z => ∃ k : Nat, k ≤ l.length ∧ z.2.1 = (k : Int) ∧ z.1 = ((encode (l.take k)).size : Int), fun z => l.length - z.2.1.toNat, ⟨0, Nat.zero_le _, rfl, rfl⟩, ?_⟩
  rintro a i ⟨k, hk, hi, ha⟩
  simp only at hi ha
  subst hi ha
  refine ⟨fun h => ?_, fun h => ?_⟩
  · have hlt : k < l.length := by omega
    have hw : IntKind.i64.wrap ((k : Int) + 1) = ((k + 1 : Nat) : Int) := wrap_succ (by omega)
    have es := sum_size hlt
    have el := encode_len l k hk
    have hs := sizeR_cases (l.getD k 0)
    have hdec : l.length - (((k + 1 : Nat) : Int)).toNat < l.length - (k : Int).toNat := by rw [toNat_cast, toNat_cast]; omega
    rw [toNat_cast, hw]
    generalize l.getD k 0 = x at *
    have w1 : IntKind.i64.wrap (((encode (l.take k)).size : Int) + sizeR x) = ((encode (l.take k)).size : Int) + sizeR x := by rw [wrap_eq]; omega
    rw [w1]
    refine ⟨by omega, fun h => absurd trivial h, fun _ => ⟨⟨k + 1, hlt, rfl, es.symm⟩, hdec⟩⟩
  · have : k = l.length := by omega
    subst this
    rw [List.take_length]
    refine ⟨by omega, by omega, ?_⟩
    simp
theorem p8 : vc8 := by
  unfold vc8
  rintro ⟨s, i, ⟨⟩⟩
  simp only
  intro hl
  simp [hl]
theorem p7 : vc7 := by
  unfold vc7
  rintro ⟨s, ⟨⟩⟩
  simp only
  intro hl
  rw [maxLen_eq] at *
  have := decL_len s
  refine ⟨fun _ => ⟨trivial, trivial⟩, fun h => ?_⟩
  have h := of_decide_eq_false h
  have e : Ty.beq t4 (good s) (good s) = true := by rw [beq_bool]; simp
  rw [e]
  refine ⟨by omega, by omega, by omega, fun _ => ⟨by omega, fun _ => ⟨by omega, by omega, by simp, by simp⟩, by simp⟩, by simp⟩
theorem p6 : vc6 := by
  unfold vc6
  rintro ⟨s, t, ⟨⟩⟩
  simp only
  rintro ⟨hl, hl2⟩
  rw [maxLen_eq] at *
  have l1 := decL_len s
  have l2 := decL_len t
  refine ⟨fun _ => ⟨trivial, trivial⟩, fun h => ⟨fun _ => ⟨trivial, trivial⟩, fun h2 => ?_⟩⟩
  have h := of_decide_eq_false h
  have h2 := of_decide_eq_false h2
  refine ⟨by omega, fun _ => ⟨trivial, trivial⟩, fun g => ?_⟩
  have g : good s = true := by simpa using g
  have e := dec_good g t
  have e0 : ([] : List Int).length = 0 := rfl
  rw [e, ByteArray.size_append, List.nil_append, List.length_append, e0]
  refine ⟨by omega, by omega, by omega, by omega, by omega, by omega, by omega, by omega, by omega, fun _ => ⟨trivial, trivial⟩, by simp⟩
theorem p5 : vc5 := by
  unfold vc5
  rintro ⟨s, ⟨⟩⟩
  simp only
  intro hl
  rw [maxLen_eq] at *
  have l1 := decL_len s
  have l2 := encode_size (decodeL s)
  have l3 : (clean s).size ≤ 4 * (decodeL s).length := l2
  refine ⟨fun _ => ⟨trivial, trivial⟩, fun h => ?_⟩
  have h := of_decide_eq_false h
  have e1 : good (clean s) = true := by unfold good; rw [clean_clean]; simp
  have e2 : Ty.beq t4 (good s) ((clean s).toList == s.toList) = true := by
    rw [beq_bool, beq_good]; unfold good; simp
  rw [e1, e2, clean_clean, dec_clean]
  refine ⟨by omega, by omega, fun _ => ⟨by omega, fun _ => ⟨by omega, fun _ => ⟨by omega, by omega, by omega, fun _ => ⟨trivial, trivial⟩, by simp⟩, by simp⟩, by simp⟩, by simp⟩
theorem p4 : vc4 := by
  unfold vc4
  simp only [eq_self, true_and, and_true, decide_eq_true_eq, decide_eq_false_iff_not, beq_iff_eq, beq_eq_false_iff_ne, bne_iff_ne, bne_eq_false_iff_eq, Bool.not_eq_true', Bool.not_eq_false', ne_eq, imp_true_iff, implies_true]
  rintro ⟨l, ⟨⟩⟩
  simp only
  intro hl h1
  rw [d21, dec_encode]
  have l2 := encode_size l
  have e1 : (l.map fix).length = l.length := List.length_map ..
  refine ⟨by omega, by omega, by rw [e1]; exact fun h => absurd rfl h, fun _ => ?_⟩
  refine ⟨fun z => ∃ k : Nat, k ≤ l.length ∧ z.1 = (k : Int), fun z => l.length - z.1.toNat, ⟨0, Nat.zero_le _, rfl⟩, ?_⟩
  rintro i ⟨k, hk, hi⟩
  simp only at hi
  subst hi
  intro h
  have hlt : k < l.length := by omega
  have hw : IntKind.i64.wrap ((k : Int) + 1) = ((k + 1 : Nat) : Int) := wrap_succ (by omega)
  have hdec : l.length - (((k + 1 : Nat) : Int)).toNat < l.length - (k : Int).toNat := by rw [toNat_cast, toNat_cast]; omega
  have eg : (l.map fix).getD k 0 = fix (l.getD k 0) := by
    rw [getD_of _ (by rw [e1]; exact hlt), getD_of _ hlt, List.getElem_map]
  rw [toNat_cast, hw, e1, eg]
  generalize l.getD k 0 = x at *
  have hx : fix x = if x < 0 ∨ x > 1114111 ∨ (x ≥ 55296 ∧ x ≤ 57343) then 65533 else x := by
    unfold fix uSize
    by_cases hx : x < 0 ∨ x > 1114111 ∨ (x ≥ 55296 ∧ x ≤ 57343)
    · rw [if_pos hx, if_pos hx, if_pos rfl]
    · rw [if_neg hx, if_neg hx]
      repeat' split
      all_goals first | rfl | (exfalso; omega)
  have nx : (∃ k' : Nat, k' ≤ l.length ∧ ((k + 1 : Nat) : Int) = (k' : Int)) := ⟨k + 1, hlt, rfl⟩
  (repeat' (first | apply And.intro | intro _))
  all_goals first
    | exact nx
    | exact hdec
    | omega
    | (exfalso; rw [hx] at *; split at * <;> omega)
    | simp_all
end Go.Fr.C01
