/-
  Chapter 15: proofs of the conditions: folds are added and let go. Conditions: none.
-/
import Derived.Test.YtmjhpfbpidlbcaaC15T
namespace Go.Fr.C15
open Go Go.Fr Go.Proofs

theorem p17 : vc17 := by
  unfold vc17
  simp only [eq_self, true_and, and_true, decide_eq_true_eq, decide_eq_false_iff_not, beq_iff_eq, beq_eq_false_iff_ne, bne_iff_ne, bne_eq_false_iff_eq, Bool.not_eq_true', Bool.not_eq_false', ne_eq, imp_true_iff, implies_true]
  rintro ⟨s, x, ⟨⟩⟩
  simp only [maxLen_eq, List.length_append, List.length_singleton]
  intro h
  have b : (allF s).length ≤ 10000 ∧ ((allF s).length + 1) * 16 ≤ 140737488355328 ∧ (allF s).length + 1 ≤ 9223372036854775807 ∧ (allF s).length + 1 ≤ 9223372036854775807 := ⟨h, by omega, by omega, by omega⟩
  exact ⟨⟨b, b, b⟩, ⟨b, b⟩, b⟩
theorem p18 : vc18 := by
  unfold vc18
  try simp only [eq_self, true_and, and_true, decide_eq_true_eq, decide_eq_false_iff_not, beq_iff_eq, beq_eq_false_iff_ne, bne_iff_ne, bne_eq_false_iff_eq, Bool.not_eq_true', Bool.not_eq_false', ne_eq, imp_true_iff, implies_true]
  rintro ⟨w, x, ⟨⟩⟩
  simp only [maxLen_eq, List.length_append, List.length_singleton, List.length_nil, List.nil_append]
  intro h
  refine ⟨by omega, by omega, by omega, by omega, by omega, ?_⟩
  first | rfl | trivial
theorem fits_no {x : Span} {n : Int} : fitsF x n = false ↔ ¬ (0 ≤ x.1 ∧ x.1 ≤ x.2.1 ∧ x.2.1 ≤ n) := by simp [fitsF]
theorem fits_yes {x : Span} {n : Int} : fitsF x n = true ↔ 0 ≤ x.1 ∧ x.1 ≤ x.2.1 ∧ x.2.1 ≤ n := by simp [fitsF]
theorem off_t {x y : Span} : offF x y = true ↔ ¬ (y.1 ≤ x.2.1 ∧ x.1 ≤ y.2.1) := by
  unfold offF
  rw [Bool.not_eq_true', Bool.and_eq_false_iff]
  simp only [decide_eq_false_iff_not]
  constructor
  · rintro (h | h) ⟨h1, h2⟩ <;> omega
  · intro h
    by_cases h1 : y.1 ≤ x.2.1
    · exact .inr fun h2 => h ⟨h1, h2⟩
    · exact .inl h1
theorem off_f {x y : Span} : offF x y = false ↔ (y.1 ≤ x.2.1 ∧ x.1 ≤ y.2.1) := by
  have := @off_t x y
  cases h : offF x y with
  | true => rw [h] at this; exact ⟨fun h => (by cases h), fun h2 => absurd h2 (this.1 rfl)⟩
  | false =>
    rw [h] at this
    refine ⟨fun _ => ?_, fun _ => rfl⟩
    refine Classical.not_not.1 fun hh => ?_
    have := this.2 hh
    cases this
theorem p20 : vc20 := by
  unfold vc20
  simp only [eq_self, true_and, and_true, decide_eq_true_eq, decide_eq_false_iff_not, beq_iff_eq, beq_eq_false_iff_ne, bne_iff_ne, bne_eq_false_iff_eq, Bool.not_eq_true', Bool.not_eq_false', ne_eq, imp_true_iff, implies_true]
  rintro ⟨w, x, ⟨⟩⟩
  simp only [maxLen_eq, d33, List.length_singleton]
  intro hl
  have no : ¬ (0 ≤ x.1 ∧ x.1 ≤ x.2.1 ∧ x.2.1 ≤ w.1) → (0, [], 1, ()) = removeW w x := fun h => by
    unfold removeW
    rw [if_pos (fits_no.2 h)]
  refine ⟨fun h => no (by omega), fun h1 => ⟨fun h => no (by omega), fun h2 => ⟨fun h => no (by omega), fun h3 => ?_⟩⟩⟩
  have hr : removeW w x = newW w.1 (w.2.1.filter (offF x)) := by
    unfold removeW
    rw [if_neg (by rw [fits_yes.2 (by omega)]; decide)]
  rw [hr]
  generalize w.2.1 = l at hl ⊢
  refine ⟨fun z => ∃ k : Nat, k ≤ l.length ∧ z.2.1 = (k : Int) ∧ z.1.length ≤ k ∧ z.1 = (l.take k).filter (offF x), fun z => l.length - z.2.1.toNat, ⟨0, Nat.zero_le _, rfl, Nat.zero_le _, rfl⟩, ?_⟩
  rintro out i ⟨k, hk, hi, hol, ho⟩
  simp only at hi hol ho
  subst hi
  simp only [toNat_cast]
  refine ⟨fun h4 => ?_, fun h4 => ?_⟩
  · have hk' : k < l.length := by omega
    have hf := filter_one (f := offF x) (d := zS) hk'
    have hwk : IntKind.i64.wrap ((k : Int) + 1) = ((k + 1 : Nat) : Int) := wrap_succ (by omega)
    generalize l.getD k zS = y at hf ⊢
    rw [hwk]
    have yes : offF x y = true → (out.length + 1) * 16 ≤ 140737488355328 ∧ out.length + 1 ≤ 9223372036854775807 ∧ (∃ k' : Nat, k' ≤ l.length ∧ ((k + 1 : Nat) : Int) = (k' : Int) ∧ (out ++ [y]).length ≤ k' ∧ out ++ [y] = (l.take k').filter (offF x)) ∧ l.length - (((k + 1 : Nat) : Int)).toNat < l.length - k := fun h =>
      ⟨by omega, by omega, ⟨k + 1, hk', rfl, by simp; omega, by rw [hf, if_pos h, ← ho]⟩, by rw [toNat_cast]; omega⟩
    refine ⟨by omega, fun h5 => yes (off_t.2 (by omega)), fun h5 => ⟨fun h6 => yes (off_t.2 (by omega)), fun h6 => ?_⟩⟩
    have hno : offF x y = false := off_f.2 (by omega)
    exact ⟨⟨k + 1, hk', rfl, by omega, by rw [hf, hno, ← ho]; simp⟩, by rw [toNat_cast]; omega⟩
  · have hke : k = l.length := by omega
    subst hke
    rw [List.take_length] at ho
    subst ho
    exact ⟨by omega, rfl⟩
theorem p19 : vc19 := by
  unfold vc19
  simp only [eq_self, true_and, and_true, decide_eq_true_eq, decide_eq_false_iff_not, beq_iff_eq, beq_eq_false_iff_ne, bne_iff_ne, bne_eq_false_iff_eq, Bool.not_eq_true', Bool.not_eq_false', ne_eq, imp_true_iff, implies_true]
  rintro ⟨s, x, ⟨⟩⟩
  simp only [maxLen_eq, d33]
  intro hl
  refine ⟨fun h => by unfold removeF; rw [if_pos h], fun h => ⟨hl, hl, ?_⟩⟩
  have hr : removeF s x = ((newF (lenF s) ((allF s).filter (offF x))).1, ((allF s).length : Int) - (((allF s).filter (offF x)).length : Int), (newF (lenF s) ((allF s).filter (offF x))).2.1, ()) := by
    unfold removeF
    rw [if_neg (by rw [h]; decide)]
  rw [hr]
  clear hr
  generalize lenF s = n
  generalize allF s = xs at hl ⊢
  have hfl : (xs.filter (offF x)).length ≤ xs.length := List.length_filter_le ..
  have hw0 : IntKind.i64.wrap ((xs.length : Int) - ((xs.filter (offF x)).length : Int)) = (xs.length : Int) - ((xs.filter (offF x)).length : Int) := wrap_id (by omega) (by omega)
  have second : ∀ (a : List Span) (i j : Int), (∃ i' j' : Nat, i = (i' : Int) ∧ j = (j' : Int) ∧ DelI (offF x) zS xs a i' j') →
      (j < (a.length : Int) → (0 ≤ j ∧ j < (a.length : Int)) ∧
        ((a.getD j.toNat zS).1 ≤ x.2.1 → (¬ x.1 ≤ (a.getD j.toNat zS).2.1 → (0 ≤ i ∧ i < (a.length : Int)) ∧ (∃ i' j' : Nat, IntKind.i64.wrap (i + 1) = (i' : Int) ∧ IntKind.i64.wrap (j + 1) = (j' : Int) ∧ DelI (offF x) zS xs (a.set i.toNat (a.getD j.toNat zS)) i' j') ∧ xs.length - (IntKind.i64.wrap (j + 1)).toNat < xs.length - j.toNat) ∧
          (x.1 ≤ (a.getD j.toNat zS).2.1 → (∃ i' j' : Nat, i = (i' : Int) ∧ IntKind.i64.wrap (j + 1) = (j' : Int) ∧ DelI (offF x) zS xs a i' j') ∧ xs.length - (IntKind.i64.wrap (j + 1)).toNat < xs.length - j.toNat)) ∧
        (¬ (a.getD j.toNat zS).1 ≤ x.2.1 → ((0 ≤ i ∧ i < (a.length : Int)) ∧ (∃ i' j' : Nat, IntKind.i64.wrap (i + 1) = (i' : Int) ∧ IntKind.i64.wrap (j + 1) = (j' : Int) ∧ DelI (offF x) zS xs (a.set i.toNat (a.getD j.toNat zS)) i' j') ∧ xs.length - (IntKind.i64.wrap (j + 1)).toNat < xs.length - j.toNat))) ∧
      (¬ j < (a.length : Int) → (0 ≤ i ∧ i < (a.length : Int)) ∧ (0 ≤ i ∧ i ≤ ((a.take i.toNat ++ List.replicate (a.length - i.toNat) zS).length : Int)) ∧ (a.take i.toNat ++ List.replicate (a.length - i.toNat) zS).take i.toNat = xs.filter (offF x)) := by
    rintro a i j ⟨i', j', rfl, rfl, hd⟩
    have hd' := hd
    obtain ⟨h1, h2, h3, h4, h5⟩ := hd'
    refine ⟨fun h => ?_, fun h => ?_⟩
    · have hw : IntKind.i64.wrap ((j' : Int) + 1) = ((j' + 1 : Nat) : Int) := wrap_succ (by omega)
      have hw2 : IntKind.i64.wrap ((i' : Int) + 1) = ((i' + 1 : Nat) : Int) := wrap_succ (by omega)
      rw [toNat_cast, toNat_cast, hw, hw2]
      have hlt : j' < xs.length := by omega
      have yes : offF x (a.getD j' zS) = true → (0 ≤ (i' : Int) ∧ (i' : Int) < (a.length : Int)) ∧ (∃ i'' j'' : Nat, ((i' + 1 : Nat) : Int) = (i'' : Int) ∧ ((j' + 1 : Nat) : Int) = (j'' : Int) ∧ DelI (offF x) zS xs (a.set i' (a.getD j' zS)) i'' j'') ∧ xs.length - (((j' + 1 : Nat) : Int)).toNat < xs.length - j' := fun g =>
        ⟨⟨by omega, by omega⟩, ⟨i' + 1, j' + 1, rfl, rfl, hd.keep hlt g⟩, by rw [toNat_cast]; omega⟩
      refine ⟨⟨by omega, h⟩, fun g1 => ⟨fun g2 => yes (off_t.2 (by omega)), fun g2 => ⟨⟨i', j' + 1, rfl, rfl, hd.drop hlt (off_f.2 ⟨g1, g2⟩)⟩, by rw [toNat_cast]; omega⟩⟩, fun g1 => yes (off_t.2 (by omega))⟩
    · have hj : j' = xs.length := by omega
      subst hj
      rw [toNat_cast, List.length_append, List.length_take, List.length_replicate]
      exact ⟨⟨by omega, by omega⟩, ⟨by omega, by omega⟩, hd.last zS⟩
  refine ⟨fun z => ∃ k : Nat, k ≤ xs.length ∧ z.1 = (k : Int) ∧ ∀ j, j < k → offF x (xs.getD j zS) = true, fun z => xs.length - z.1.toNat, ⟨0, Nat.zero_le _, rfl, fun j hj => by omega⟩, ?_⟩
  rintro i ⟨k, hk, hi, hs⟩
  simp only at hi
  subst hi
  have kz : ∀ a : List Span, List.replicate (a.length - k) ((0, 0, ()) : Span) = List.replicate (a.length - k) zS := fun _ => rfl
  refine ⟨fun h => ?_, fun h => ?_⟩
  · have hlt : k < xs.length := by omega
    have hw : IntKind.i64.wrap ((k : Int) + 1) = ((k + 1 : Nat) : Int) := wrap_succ (by omega)
    rw [toNat_cast, hw]
    have next : offF x (xs.getD k zS) = true → (∃ k' : Nat, k' ≤ xs.length ∧ ((k + 1 : Nat) : Int) = (k' : Int) ∧ ∀ j, j < k' → offF x (xs.getD j zS) = true) ∧ xs.length - (((k + 1 : Nat) : Int)).toNat < xs.length - (k : Int).toNat := fun g =>
      ⟨⟨k + 1, hlt, rfl, fun j hj => by
        by_cases e : j = k
        · subst e; exact g
        · exact hs j (by omega)⟩, by rw [toNat_cast, toNat_cast]; omega⟩
    refine ⟨⟨by omega, h⟩, fun g1 => ⟨fun g2 => ⟨fun g3 => by omega, fun _ => ?_⟩, fun g2 => next (off_t.2 (by omega))⟩, fun g1 => next (off_t.2 (by omega))⟩
    refine ⟨fun z => ∃ i' j' : Nat, z.2.1 = (i' : Int) ∧ z.2.2.1 = (j' : Int) ∧ DelI (offF x) zS xs z.1 i' j', fun z => xs.length - z.2.2.1.toNat, ⟨k, k + 1, rfl, rfl, DelI.init hlt hs (off_f.2 ⟨g1, g2⟩)⟩, fun a i j hz => ?_⟩
    obtain ⟨s1, s2⟩ := second a i j hz
    refine ⟨fun h => ?_, fun h => ?_⟩
    · obtain ⟨q1, q2, q3⟩ := s1 h
      exact ⟨q1, q2, fun g => ⟨fun _ => q3 g, fun hh => absurd hh (by decide)⟩⟩
    · obtain ⟨q1, q2, q3⟩ := s2 h
      refine ⟨q1, q2, ?_⟩
      have q3' : (a.take i.toNat ++ List.replicate (a.length - i.toNat) ((0, 0, ()) : Span)).take i.toNat = xs.filter (offF x) := q3
      rw [q3', hw0]
      exact ⟨by omega, rfl⟩
  · have hke : k = xs.length := by omega
    subst hke
    have hfw := filter_whole (f := offF x) (d := zS) hs
    refine ⟨fun _ => ?_, fun h => absurd trivial h⟩
    rw [hfw] at hw0 ⊢
    rw [hw0]
    exact ⟨by omega, rfl⟩
end Go.Fr.C15
