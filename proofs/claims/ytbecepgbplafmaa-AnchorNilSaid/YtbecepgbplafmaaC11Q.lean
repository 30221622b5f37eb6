/-
  Chapter 11: proofs of the conditions: small functions. Conditions: none.
-/
import Derived.Test.YtbecepgbplafmaaC11P
import Derived.Test.YtbecepgbplafmaaC11N
import Derived.Test.YtbecepgbplafmaaC11S
import Derived.Test.YtbecepgbplafmaaFrX4
namespace Go.Fr.C11
open Go Go.Fr Go.Proofs

def zA : Anc := (0, 0, 0, ())
theorem d36 : Ty.dflt t36 = zA := rfl
theorem d35 : Ty.dflt t35 = zA := rfl
theorem d3 : Ty.dflt t3 = (0 : Int) := rfl
theorem beqA (a b : Anc) : Ty.beq t35 a b = true ↔ a = b := by
  obtain ⟨a1, a2, a3, ⟨⟩⟩ := a
  obtain ⟨b1, b2, b3, ⟨⟩⟩ := b
  show (a1 == b1 && (a2 == b2 && (a3 == b3 && true))) = true ↔ _
  simp
theorem beqA_f (a b : Anc) : Ty.beq t35 a b = false ↔ a ≠ b := by
  cases h : Ty.beq t35 a b with
  | true => simp [(beqA a b).1 h]
  | false =>
    refine ⟨fun _ e => ?_, fun _ => rfl⟩
    rw [(beqA a b).2 e] at h
    cases h
theorem p37 : vc37 := by
  unfold vc37
  simp only [eq_self, true_and, and_true, decide_eq_true_eq, decide_eq_false_iff_not, beq_iff_eq, beq_eq_false_iff_ne, bne_iff_ne, bne_eq_false_iff_eq, Bool.not_eq_true', Bool.not_eq_false', ne_eq, imp_true_iff, implies_true]
  rintro ⟨a, b, ⟨⟩⟩
  simp only [not_true, false_imp_iff, true_and, true_imp_iff]
  unfold cmpI
  refine ⟨fun h => by rw [if_pos h], fun h => ⟨fun h2 => by rw [if_neg h, if_pos h2], fun h2 => by rw [if_neg h, if_neg h2]⟩⟩
theorem firstNZ_drop {l : List Int} {k : Nat} (h : ∀ j, j < k → l.getD j 0 = 0) (hk : k ≤ l.length) : firstNZ l = firstNZ (l.drop k) := by
  induction k with
  | zero => rfl
  | succ k ih =>
    rw [ih (fun j hj => h j (by omega)) (by omega), drop_cons 0 (show k < l.length by omega)]
    show (if l.getD k 0 = 0 then firstNZ (l.drop (k + 1)) else l.getD k 0) = _
    rw [if_pos (h k (by omega))]
theorem p36 : vc36 := by
  unfold vc36
  simp only [eq_self, true_and, and_true, decide_eq_true_eq, decide_eq_false_iff_not, beq_iff_eq, beq_eq_false_iff_ne, bne_iff_ne, bne_eq_false_iff_eq, Bool.not_eq_true', Bool.not_eq_false', ne_eq, imp_true_iff, implies_true]
  rintro ⟨l, ⟨⟩⟩
  simp only [maxLen_eq, d3]
  intro hl
  refine ⟨fun z => ∃ k : Nat, k ≤ l.length ∧ z.1 = (k : Int) ∧ ∀ j, j < k → l.getD j 0 = 0, fun z => l.length - z.1.toNat, ⟨0, Nat.zero_le _, rfl, fun j hj => by omega⟩, ?_⟩
  rintro a ⟨k, hk, rfl, hz⟩
  simp only [toNat_cast]
  refine ⟨fun h1 => ⟨by omega, fun h2 => ?_, fun h2 => ?_⟩, fun h1 => ?_⟩
  · rw [firstNZ_drop hz hk, drop_cons 0 (show k < l.length by omega)]
    simp only [firstNZ]
    rw [if_neg h2]
  · have hw : IntKind.i64.wrap ((k : Int) + 1) = ((k + 1 : Nat) : Int) := wrap_succ (by omega)
    rw [hw, toNat_cast]
    refine ⟨⟨k + 1, by omega, rfl, fun j hj => ?_⟩, by omega⟩
    by_cases e : j = k
    · subst e; exact h2
    · exact hz j (by omega)
  · rw [firstNZ_drop hz hk, show k = l.length by omega, List.drop_length]
    rfl
theorem p24 : vc24 := by
  unfold vc24
  intro x _
  refine ⟨trivial, trivial, by simp [maxLen_eq], rfl⟩
theorem p22 : vc22 := by
  unfold vc22
  try simp only [eq_self, true_and, and_true, decide_eq_true_eq, decide_eq_false_iff_not, beq_iff_eq, beq_eq_false_iff_ne, bne_iff_ne, bne_eq_false_iff_eq, Bool.not_eq_true', Bool.not_eq_false', ne_eq, imp_true_iff, implies_true]
  rintro ⟨l, ⟨⟩⟩
  simp only [maxLen_eq]
  intro h c hc
  refine ⟨fun h1 => ?_, fun h1 => ⟨by omega, by omega, by simp⟩⟩
  exact (List.eq_nil_of_length_eq_zero (hc h1)).symm
theorem pO22 : vcO22 := by
  unfold vcO22
  try simp only [eq_self, true_and, and_true, decide_eq_true_eq, decide_eq_false_iff_not, beq_iff_eq, beq_eq_false_iff_ne, bne_iff_ne, bne_eq_false_iff_eq, Bool.not_eq_true', Bool.not_eq_false', ne_eq, imp_true_iff, implies_true]
  rintro ⟨l, ⟨⟩⟩
  simp only [maxLen_eq]
  intro h c hc
  refine ⟨fun h1 => ?_, fun h1 => ⟨by omega, by omega, by simp⟩⟩
  exact (List.eq_nil_of_length_eq_zero (hc h1)).symm
theorem p15 : vc15 := by
  unfold vc15
  try simp only [eq_self, true_and, and_true, decide_eq_true_eq, decide_eq_false_iff_not, beq_iff_eq, beq_eq_false_iff_ne, bne_iff_ne, bne_eq_false_iff_eq, Bool.not_eq_true', Bool.not_eq_false', ne_eq, imp_true_iff, implies_true]
  rintro ⟨s, ⟨⟩⟩
  simp only
  intro h
  cases s with
  | none => exact ⟨fun _ => rfl, fun h => by cases h⟩
  | some s => exact ⟨fun h => (by cases h), fun _ => ⟨rfl, h, rfl⟩⟩
theorem pO15 : vcO15 := by
  unfold vcO15
  try simp only [eq_self, true_and, and_true, decide_eq_true_eq, decide_eq_false_iff_not, beq_iff_eq, beq_eq_false_iff_ne, bne_iff_ne, bne_eq_false_iff_eq, Bool.not_eq_true', Bool.not_eq_false', ne_eq, imp_true_iff, implies_true]
  rintro ⟨s, ⟨⟩⟩
  simp only
  intro h
  cases s with
  | none => exact ⟨fun _ => rfl, fun h => by cases h⟩
  | some s => exact ⟨fun h => (by cases h), fun _ => ⟨rfl, h, rfl⟩⟩
theorem take_snoc' {l : List Anc} {k : Nat} (h : k < l.length) : l.take (k + 1) = l.take k ++ [l.getD k zA] := by
  rw [List.take_succ_eq_append_getElem h, getD_of zA h]
theorem p11 : vc11 := by
  unfold vc11
  simp only [eq_self, true_and, and_true, decide_eq_true_eq, decide_eq_false_iff_not, beq_iff_eq, beq_eq_false_iff_ne, bne_iff_ne, bne_eq_false_iff_eq, Bool.not_eq_true', Bool.not_eq_false', ne_eq, imp_true_iff, implies_true]
  rintro ⟨l, ⟨⟩⟩
  simp only [maxLen_eq, d36]
  intro hl
  refine ⟨fun z => ∃ k : Nat, k ≤ l.length ∧ z.2.1 = (k : Int) ∧ z.1 = l.take k, fun z => l.length - z.2.1.toNat, ⟨0, Nat.zero_le _, rfl, rfl⟩, ?_⟩
  rintro out i ⟨k, hk, hi, ho⟩
  simp only at hi ho
  subst hi ho
  refine ⟨fun h => ?_, fun h => ?_⟩
  · have hlt : k < l.length := by omega
    have hw : IntKind.i64.wrap ((k : Int) + 1) = ((k + 1 : Nat) : Int) := wrap_succ (by omega)
    rw [toNat_cast, hw, ← take_snoc' hlt]
    simp only [List.length_take, List.length_singleton, toNat_cast]
    exact ⟨⟨by omega, h⟩, by omega, by omega, ⟨k + 1, hlt, rfl, rfl⟩, by omega⟩
  · have hke : k = l.length := by omega
    rw [hke, List.take_length]
theorem p14 : vc14 := by
  unfold vc14
  simp only [eq_self, true_and, and_true, decide_eq_true_eq, decide_eq_false_iff_not, beq_iff_eq, beq_eq_false_iff_ne, bne_iff_ne, bne_eq_false_iff_eq, Bool.not_eq_true', Bool.not_eq_false', ne_eq, imp_true_iff, implies_true]
  rintro ⟨a, b, ⟨⟩⟩
  simp only [maxLen_eq, d35]
  rintro ⟨ha, hb⟩
  refine ⟨ha, ?_⟩
  refine ⟨fun z => ∃ k : Nat, k ≤ a.length ∧ z.1 = (k : Int) ∧ k ≤ b.length ∧ a.take k = b.take k, fun z => a.length - z.1.toNat, ⟨0, Nat.zero_le _, rfl, Nat.zero_le _, rfl⟩, ?_⟩
  rintro i ⟨k, hk, hi, hkb, he⟩
  simp only at hi
  subst hi
  refine ⟨fun h1 => ⟨fun h2 => ?_, fun h2 => ?_⟩, fun h1 => ?_⟩
  · exact (decide_eq_false fun e => by rw [e] at h1; omega).symm
  · have hka : k < a.length := by omega
    have hkb' : k < b.length := by omega
    have hw : IntKind.i64.wrap ((k : Int) + 1) = ((k + 1 : Nat) : Int) := wrap_succ (by omega)
    rw [toNat_cast, hw]
    refine ⟨⟨by omega, h1⟩, ⟨by omega, by omega⟩, fun h3 => ?_, fun h3 => ?_⟩
    · have h3 := (beqA_f _ _).1 h3
      exact (decide_eq_false fun e => h3 (by rw [e])).symm
    · have h3 := (beqA _ _).1 h3
      refine ⟨⟨k + 1, hka, rfl, hkb', ?_⟩, by simp only [toNat_cast]; omega⟩
      rw [take_snoc' hka, take_snoc' hkb', he, h3]
  · have hke : k = a.length := by omega
    subst hke
    rw [List.take_length] at he
    rw [he]
    by_cases hl : b.length = a.length
    · rw [show b.take a.length = b from by rw [← hl, List.take_length]]
      simp
    · have h1 : ((((b.take a.length).length : Nat) : Int) == (b.length : Int)) = false := by
        rw [List.length_take]
        simp only [beq_eq_false_iff_ne, ne_eq]
        omega
      rw [h1]
      refine (decide_eq_false fun e => ?_).symm
      have := congrArg List.length e
      rw [List.length_take] at this
      omega
/-! The map of anchors. -/
theorem mget_getL (i : Int) : (m : AMap) → mget t3 t36 i m = getL i m
  | [] => rfl
  | e :: r => by
    have ih := mget_getL i r
    have h : mget t3 t36 i (e :: r) = bif Ty.beq t3 i e.1 then some e.2.1 else mget t3 t36 i r := rfl
    rw [h, ih]
    show _ = if i = e.1 then some e.2.1 else getL i r
    by_cases hi : i = e.1
    · rw [if_pos hi, show Ty.beq t3 i e.1 = true from by simp [Ty.beq, hi]]
      rfl
    · rw [if_neg hi, show Ty.beq t3 i e.1 = false from by simp [Ty.beq, hi]]
      rfl
theorem getL_keys (i : Int) : (l : List Anc) → (getL i (keysA l) = none ↔ hasId i l = false) ∧ (Option.isSome (getL i (keysA l)) = true ↔ hasId i l = true)
  | [] => by simp [keysA, getL, hasId]
  | x :: r => by
    have ih := getL_keys i r
    show ((if i = x.1 then some x else getL i (keysA r)) = none ↔ (decide (x.1 = i) || hasId i r) = false) ∧ (Option.isSome (if i = x.1 then some x else getL i (keysA r)) = true ↔ (decide (x.1 = i) || hasId i r) = true)
    by_cases h : i = x.1
    · rw [if_pos h]
      simp [h]
    · rw [if_neg h, decide_eq_false (fun e => h e.symm)]
      simpa using ih
theorem p13 : vc13 := by
  unfold vc13
  simp only [eq_self, true_and, and_true, decide_eq_true_eq, decide_eq_false_iff_not, beq_iff_eq, beq_eq_false_iff_ne, bne_iff_ne, bne_eq_false_iff_eq, Bool.not_eq_true', Bool.not_eq_false', ne_eq, imp_true_iff, implies_true]
  rintro ⟨s, i, ⟨⟩⟩
  simp only [mget_getL]
  intro _
  cases s with
  | none => exact ⟨fun _ => rfl, fun h => by cases h⟩
  | some s =>
    refine ⟨fun h => (by cases h), fun _ => ⟨rfl, fun h => ?_, fun h => ?_⟩⟩
    · have h : Option.isSome (getL i (byA (some s))) = false := h
      have h2 : getL i (byA (some s)) = none := by simpa using h
      show _ = getA (some s) i
      unfold getA
      rw [h2]
    · have h : Option.isSome (getL i (byA (some s))) = true := h
      obtain ⟨a, ha⟩ := Option.isSome_iff_exists.1 h
      show (Option.getD (getL i (byA (some s))) _, _, _) = getA (some s) i
      unfold getA
      rw [ha]
      rfl
theorem p21 : vc21 := by
  unfold vc21
  simp only [eq_self, true_and, and_true, decide_eq_true_eq, decide_eq_false_iff_not, beq_iff_eq, beq_eq_false_iff_ne, bne_iff_ne, bne_eq_false_iff_eq, Bool.not_eq_true', Bool.not_eq_false', ne_eq, imp_true_iff, implies_true]
  rintro ⟨l, ⟨⟩⟩
  have d51 : Ty.dflt t51 = zeroC := rfl
  simp only [maxLen_eq, d51]
  intro hl
  refine ⟨fun z => ∃ k : Nat, k ≤ l.length ∧ z.2.1 = (k : Int) ∧ z.1 = invert (l.take k), fun z => l.length - z.2.1.toNat, ⟨0, Nat.zero_le _, rfl, rfl⟩, ?_⟩
  rintro out i ⟨k, hk, hi, ho⟩
  simp only at hi ho
  subst hi
  have hol : out.length = k := by rw [ho]; simp [invert]; omega
  refine ⟨fun h => ?_, fun h => ?_⟩
  · have hlt : k < l.length := by omega
    have hw : IntKind.i64.wrap ((k : Int) + 1) = ((k + 1 : Nat) : Int) := wrap_succ (by omega)
    rw [toNat_cast, hw]
    simp only [List.length_singleton, toNat_cast]
    refine ⟨⟨by omega, h⟩, by omega, by omega, ⟨k + 1, hlt, rfl, ?_⟩, by omega⟩
    rw [ho, take_one zeroC hlt]
    simp [invert]
  · have hke : k = l.length := by omega
    rw [ho, hke, List.take_length]
end Go.Fr.C11
