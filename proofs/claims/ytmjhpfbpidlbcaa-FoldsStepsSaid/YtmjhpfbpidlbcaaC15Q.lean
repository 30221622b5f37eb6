/-
  Chapter 15: proofs of the conditions: small functions. Conditions: none.
-/
import Derived.Test.YtmjhpfbpidlbcaaC15P
import Derived.Test.YtmjhpfbpidlbcaaC15N
import Derived.Test.YtmjhpfbpidlbcaaC15S
namespace Go.Fr.C15
open Go Go.Fr Go.Proofs

def zS : Span := (0, 0, ())
theorem d33 : Ty.dflt t33 = zS := rfl
theorem d3 : Ty.dflt t3 = (0 : Int) := rfl
theorem beqS (a b : Span) : Ty.beq t33 a b = true ↔ a = b := by
  obtain ⟨a1, a2, ⟨⟩⟩ := a
  obtain ⟨b1, b2, ⟨⟩⟩ := b
  show (a1 == b1 && (a2 == b2 && true)) = true ↔ _
  simp
theorem beqS_f (a b : Span) : Ty.beq t33 a b = false ↔ a ≠ b := by
  cases h : Ty.beq t33 a b with
  | true => simp [(beqS a b).1 h]
  | false =>
    refine ⟨fun _ e => ?_, fun _ => rfl⟩
    rw [(beqS a b).2 e] at h
    cases h
theorem p40 : vc40 := by
  unfold vc40
  simp only [eq_self, true_and, and_true, decide_eq_true_eq, decide_eq_false_iff_not, beq_iff_eq, beq_eq_false_iff_ne, bne_iff_ne, bne_eq_false_iff_eq, Bool.not_eq_true', Bool.not_eq_false', ne_eq, imp_true_iff, implies_true]
  rintro ⟨a, b, ⟨⟩⟩
  simp only [not_true, false_imp_iff, true_and, true_imp_iff]
  unfold cmpI
  refine ⟨fun h => by rw [if_pos h], fun h => ⟨fun h2 => by rw [if_neg h, if_pos h2], fun h2 => by rw [if_neg h, if_neg h2]⟩⟩
theorem firstNZ_drop {l : List Int} {k : Nat} (h : ∀ j, j < k → l.getD j 0 = 0) (hk : k ≤ l.length) : firstNZ l = firstNZ (l.drop k) := by
  induction k with
  | zero => rfl
  | succ k ih =>
    rw [ih (fun j hj => h j (by omega)) (by omega), drop_cons 0 (show k < l.length by omega)]
    show (if l.getD k 0 = 0 then firstNZ (l.drop (k + 1)) else l.getD k 0) = _
    rw [if_pos (h k (by omega))]
theorem p39 : vc39 := by
  unfold vc39
  simp only [eq_self, true_and, and_true, decide_eq_true_eq, decide_eq_false_iff_not, beq_iff_eq, beq_eq_false_iff_ne, bne_iff_ne, bne_eq_false_iff_eq, Bool.not_eq_true', Bool.not_eq_false', ne_eq, imp_true_iff, implies_true]
  rintro ⟨l, ⟨⟩⟩
  simp only [maxLen_eq, d3]
  intro hl
  refine ⟨fun z => ∃ k : Nat, k ≤ l.length ∧ z.1 = (k : Int) ∧ ∀ j, j < k → l.getD j 0 = 0, fun z => l.length - z.1.toNat, ⟨0, Nat.zero_le _, rfl, fun j hj => by omega⟩, ?_⟩
  rintro a ⟨k, hk, rfl, hz⟩
  simp only [toNat_cast]
  refine ⟨fun h1 => ⟨by omega, fun h2 => ?_, fun h2 => ?_⟩, fun h1 => ?_⟩
  · rw [firstNZ_drop hz hk, drop_cons 0 (show k < l.length by omega)]
    simp only [firstNZ]
    rw [if_neg h2]
  · have hw : IntKind.i64.wrap ((k : Int) + 1) = ((k + 1 : Nat) : Int) := wrap_succ (by omega)
    rw [hw, toNat_cast]
    refine ⟨⟨k + 1, by omega, rfl, fun j hj => ?_⟩, by omega⟩
    by_cases e : j = k
    · subst e; exact h2
    · exact hz j (by omega)
  · rw [firstNZ_drop hz hk, show k = l.length by omega, List.drop_length]
    rfl
theorem p28 : vc28 := by
  unfold vc28
  intro x _
  refine ⟨trivial, trivial, by simp [maxLen_eq], rfl⟩
theorem p25 : vc25 := by
  unfold vc25
  simp only [eq_self, true_and, and_true, decide_eq_true_eq, decide_eq_false_iff_not, beq_iff_eq, beq_eq_false_iff_ne, bne_iff_ne, bne_eq_false_iff_eq, Bool.not_eq_true', Bool.not_eq_false', ne_eq, imp_true_iff, implies_true]
  rintro ⟨⟨a, b, ⟨⟩⟩, n, ⟨⟩⟩
  simp only [fitsF]
  intro _
  refine ⟨fun h1 => ⟨fun h2 => decide_eq_decide.2 (by omega), fun h2 => ?_⟩, fun h1 => ?_⟩
  · exact (decide_eq_false (by omega)).symm
  · exact (decide_eq_false (by omega)).symm
theorem p41 : vc41 := by
  unfold vc41
  intro x _
  refine ⟨fun h1 => by rw [h1]; rfl, fun h1 => by rw [h1]; rfl⟩
theorem p26 : vc26 := by
  unfold vc26
  try simp only [eq_self, true_and, and_true, decide_eq_true_eq, decide_eq_false_iff_not, beq_iff_eq, beq_eq_false_iff_ne, bne_iff_ne, bne_eq_false_iff_eq, Bool.not_eq_true', Bool.not_eq_false', ne_eq, imp_true_iff, implies_true]
  rintro ⟨l, ⟨⟩⟩
  simp only [maxLen_eq]
  intro h c hc
  refine ⟨fun h1 => ?_, fun h1 => ⟨by omega, by omega, by simp⟩⟩
  exact (List.eq_nil_of_length_eq_zero (hc h1)).symm
theorem pO26 : vcO26 := by
  unfold vcO26
  try simp only [eq_self, true_and, and_true, decide_eq_true_eq, decide_eq_false_iff_not, beq_iff_eq, beq_eq_false_iff_ne, bne_iff_ne, bne_eq_false_iff_eq, Bool.not_eq_true', Bool.not_eq_false', ne_eq, imp_true_iff, implies_true]
  rintro ⟨l, ⟨⟩⟩
  simp only [maxLen_eq]
  intro h c hc
  refine ⟨fun h1 => ?_, fun h1 => ⟨by omega, by omega, by simp⟩⟩
  exact (List.eq_nil_of_length_eq_zero (hc h1)).symm
theorem p16 : vc16 := by
  unfold vc16
  try simp only [eq_self, true_and, and_true, decide_eq_true_eq, decide_eq_false_iff_not, beq_iff_eq, beq_eq_false_iff_ne, bne_iff_ne, bne_eq_false_iff_eq, Bool.not_eq_true', Bool.not_eq_false', ne_eq, imp_true_iff, implies_true]
  rintro ⟨s, ⟨⟩⟩
  simp only
  intro h
  cases s with
  | none => exact ⟨fun _ => rfl, fun h => by cases h⟩
  | some s => exact ⟨fun h => (by cases h), fun _ => ⟨rfl, h, rfl⟩⟩
theorem pO16 : vcO16 := by
  unfold vcO16
  try simp only [eq_self, true_and, and_true, decide_eq_true_eq, decide_eq_false_iff_not, beq_iff_eq, beq_eq_false_iff_ne, bne_iff_ne, bne_eq_false_iff_eq, Bool.not_eq_true', Bool.not_eq_false', ne_eq, imp_true_iff, implies_true]
  rintro ⟨s, ⟨⟩⟩
  simp only
  intro h
  cases s with
  | none => exact ⟨fun _ => rfl, fun h => by cases h⟩
  | some s => exact ⟨fun h => (by cases h), fun _ => ⟨rfl, h, rfl⟩⟩
theorem p11 : vc11 := by
  unfold vc11
  try simp only [eq_self, true_and, and_true, decide_eq_true_eq, decide_eq_false_iff_not, beq_iff_eq, beq_eq_false_iff_ne, bne_iff_ne, bne_eq_false_iff_eq, Bool.not_eq_true', Bool.not_eq_false', ne_eq, imp_true_iff, implies_true]
  rintro ⟨s, ⟨⟩⟩
  simp only
  intro h
  cases s with
  | none => exact ⟨fun _ => rfl, fun h => by cases h⟩
  | some s => exact ⟨fun h => (by cases h), fun _ => ⟨rfl, h, rfl⟩⟩
theorem p23 : vc23 := by
  unfold vc23
  try simp only [eq_self, true_and, and_true, decide_eq_true_eq, decide_eq_false_iff_not, beq_iff_eq, beq_eq_false_iff_ne, bne_iff_ne, bne_eq_false_iff_eq, Bool.not_eq_true', Bool.not_eq_false', ne_eq, imp_true_iff, implies_true]
  rintro ⟨s, ⟨⟩⟩ -
  simp only
  cases s with
  | none => exact ⟨fun _ => rfl, fun h => by cases h⟩
  | some s => exact ⟨fun h => (by cases h), fun _ => ⟨rfl, rfl⟩⟩
theorem p24 : vc24 := by
  unfold vc24
  simp only [eq_self, true_and, and_true, decide_eq_true_eq, decide_eq_false_iff_not, beq_iff_eq, beq_eq_false_iff_ne, bne_iff_ne, bne_eq_false_iff_eq, Bool.not_eq_true', Bool.not_eq_false', ne_eq, imp_true_iff, implies_true]
  rintro ⟨a, b, ⟨⟩⟩
  simp only [maxLen_eq, d33]
  rintro ⟨ha, hb⟩
  refine ⟨fun z => ∃ k : Nat, k ≤ a.length ∧ k ≤ b.length ∧ z.1 = (k : Int) ∧ a.take k = b.take k, fun z => a.length - z.1.toNat, ⟨0, Nat.zero_le _, Nat.zero_le _, rfl, by simp⟩, ?_⟩
  rintro i ⟨k, hka, hkb, rfl, ht⟩
  simp only [toNat_cast]
  refine ⟨fun h1 => ⟨fun h2 => ?_, fun h2 => ⟨by omega, by omega, fun h3 => ?_, fun h3 => ?_⟩⟩, fun h1 => ?_⟩
  · refine (decide_eq_false fun e => ?_).symm
    rw [e] at h1
    omega
  · refine (decide_eq_false fun e => ?_).symm
    rw [e] at h3
    exact (beqS_f _ _).1 h3 rfl
  · have h3 := (beqS _ _).1 h3
    have hw : IntKind.i64.wrap ((k : Int) + 1) = ((k + 1 : Nat) : Int) := wrap_succ (by omega)
    rw [hw, toNat_cast]
    refine ⟨⟨k + 1, by omega, by omega, rfl, ?_⟩, by omega⟩
    rw [List.take_succ_eq_append_getElem (by omega), List.take_succ_eq_append_getElem (by omega), ht]
    rw [getD_of zS (show k < a.length by omega), getD_of zS (show k < b.length by omega)] at h3
    rw [h3]
  · have hk : k = a.length := by omega
    subst hk
    rw [List.take_length] at ht
    by_cases e : a.length = b.length
    · rw [e, List.take_length] at ht
      simp [ht]
    · have : ¬ a = b := fun h => e (by rw [h])
      simp only [this, decide_false]
      simp only [beq_eq_false_iff_ne, ne_eq]
      omega
theorem inF_t {at_ : Int} {x : Span} (h1 : x.1 < at_) (h2 : at_ < x.2.1) : inF at_ x = true := by simp [inF, h1, h2]
theorem inF_f {at_ : Int} {x : Span} (h : ¬ x.1 < at_ ∨ ¬ at_ < x.2.1) : inF at_ x = false := by
  unfold inF
  rcases h with h | h
  · rw [decide_eq_false h]; rfl
  · rw [decide_eq_false h, Bool.and_false]
theorem find_none {α : Type} {f : α → Bool} {l : List α} {k : Nat} {d : α} (h : ∀ j, j < k → f (l.getD j d) = false) (hk : k ≤ l.length) : l.find? f = (l.drop k).find? f := by
  induction k with
  | zero => rfl
  | succ k ih =>
    rw [ih (fun j hj => h j (by omega)) (by omega), drop_cons d (show k < l.length by omega)]
    rw [List.find?_cons_of_neg (by rw [h k (by omega)]; decide)]
theorem p13 : vc13 := by
  unfold vc13
  simp only [eq_self, true_and, and_true, decide_eq_true_eq, decide_eq_false_iff_not, beq_iff_eq, beq_eq_false_iff_ne, bne_iff_ne, bne_eq_false_iff_eq, Bool.not_eq_true', Bool.not_eq_false', ne_eq, imp_true_iff, implies_true]
  rintro ⟨s, at_, ⟨⟩⟩
  simp only [d33]
  intro hl
  refine ⟨hl, ?_⟩
  unfold overF
  generalize hidF s = l at hl ⊢
  refine ⟨fun z => ∃ k : Nat, k ≤ l.length ∧ z.1 = (k : Int) ∧ ∀ j, j < k → inF at_ (l.getD j zS) = false, fun z => l.length - z.1.toNat, ⟨0, Nat.zero_le _, rfl, fun j hj => by omega⟩, ?_⟩
  rintro i a1 a2 ⟨k, hk, rfl, hz⟩
  simp only [toNat_cast]
  have hw : k < l.length → IntKind.i64.wrap ((k : Int) + 1) = ((k + 1 : Nat) : Int) := fun _ => wrap_succ (by omega)
  have next : k < l.length → inF at_ (l.getD k zS) = false → (∃ k' : Nat, k' ≤ l.length ∧ ((k + 1 : Nat) : Int) = (k' : Int) ∧ ∀ j, j < k' → inF at_ (l.getD j zS) = false) ∧ l.length - (((k + 1 : Nat) : Int)).toNat < l.length - k := fun h1 h2 =>
    ⟨⟨k + 1, h1, rfl, fun j hj => by
      by_cases e : j = k
      · subst e; exact h2
      · exact hz j (by omega)⟩, by rw [toNat_cast]; omega⟩
  refine ⟨fun h1 => ⟨by omega, fun h2 => ⟨fun h3 => ?_, fun h3 => ?_⟩, fun h2 => ?_⟩, fun h1 => ?_⟩
  · have hf : l.find? (inF at_) = some (l.getD k zS) := by
      rw [find_none hz hk, drop_cons zS (show k < l.length by omega)]
      exact List.find?_cons_of_pos (inF_t h2 h3)
    rw [hf]
  · rw [hw (by omega)]
    exact next (by omega) (inF_f (.inr (by omega)))
  · rw [hw (by omega)]
    exact next (by omega) (inF_f (.inl (by omega)))
  · rw [find_none hz hk, show k = l.length by omega, List.drop_length]
    rfl
theorem hideStep_len (out : List Span) (x : Span) : (hideStep out x).length ≤ out.length + 1 := by
  unfold hideStep
  split
  · split
    · simp
    · simp
  · simp
theorem hideL_len' (l out : List Span) : (l.foldl hideStep out).length ≤ out.length + l.length := by
  induction l generalizing out with
  | nil => simp
  | cons x r ih =>
    have := ih (hideStep out x)
    have h2 := hideStep_len out x
    simp only [List.foldl_cons, List.length_cons]
    omega
theorem hideL_len (l : List Span) : (hideL l).length ≤ l.length := by
  have := hideL_len' l []
  simpa [hideL] using this
theorem p14 : vc14 := by
  unfold vc14
  simp only [eq_self, true_and, and_true, decide_eq_true_eq, decide_eq_false_iff_not, beq_iff_eq, beq_eq_false_iff_ne, bne_iff_ne, bne_eq_false_iff_eq, Bool.not_eq_true', Bool.not_eq_false', ne_eq, imp_true_iff, implies_true]
  rintro ⟨w, at_, ⟨⟩⟩
  simp only [d33]
  intro hr
  refine ⟨hr, ?_⟩
  unfold overW
  have hl : (hideL w.2.1).length ≤ 1000 := Nat.le_trans (hideL_len _) hr.1
  generalize hideL w.2.1 = l at hl ⊢
  refine ⟨fun z => ∃ k : Nat, k ≤ l.length ∧ z.1 = (k : Int) ∧ ∀ j, j < k → inF at_ (l.getD j zS) = false, fun z => l.length - z.1.toNat, ⟨0, Nat.zero_le _, rfl, fun j hj => by omega⟩, ?_⟩
  rintro i a1 a2 ⟨k, hk, rfl, hz⟩
  simp only [toNat_cast]
  have hw : k < l.length → IntKind.i64.wrap ((k : Int) + 1) = ((k + 1 : Nat) : Int) := fun _ => wrap_succ (by omega)
  have next : k < l.length → inF at_ (l.getD k zS) = false → (∃ k' : Nat, k' ≤ l.length ∧ ((k + 1 : Nat) : Int) = (k' : Int) ∧ ∀ j, j < k' → inF at_ (l.getD j zS) = false) ∧ l.length - (((k + 1 : Nat) : Int)).toNat < l.length - k := fun h1 h2 =>
    ⟨⟨k + 1, h1, rfl, fun j hj => by
      by_cases e : j = k
      · subst e; exact h2
      · exact hz j (by omega)⟩, by rw [toNat_cast]; omega⟩
  refine ⟨fun h1 => ⟨by omega, fun h2 => ⟨fun h3 => ?_, fun h3 => ?_⟩, fun h2 => ?_⟩, fun h1 => ?_⟩
  · have hf : l.find? (inF at_) = some (l.getD k zS) := by
      rw [find_none hz hk, drop_cons zS (show k < l.length by omega)]
      exact List.find?_cons_of_pos (inF_t (by omega) h3)
    rw [hf]
  · rw [hw (by omega)]
    exact next (by omega) (inF_f (.inr (by omega)))
  · rw [hw (by omega)]
    exact next (by omega) (inF_f (.inl (by omega)))
  · rw [find_none hz hk, show k = l.length by omega, List.drop_length]
    rfl
end Go.Fr.C15
