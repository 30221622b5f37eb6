/-
  Chapter 11: proofs of the conditions: shifts. Conditions: none.
-/
import Derived.Test.YtbecepgbplafmaaC11T
namespace Go.Fr.C11
open Go Go.Fr Go.Proofs

theorem refMap_before {p b : Int} : ∀ (l : List Chg) (last : Chg) (f : Bool) (s : Int), normFrom last f l = true → p < last.1.2.1 → refMap p b l s = p + s
  | [], _, _, _, _, _ => rfl
  | c :: r, last, f, s, hn, hp => by
    have h := normFrom_cons.1 hn
    have ok := okStep_iff.1 h.1
    rw [refMap, if_neg (by omega), if_neg (by omega)]
    exact refMap_before r c false s h.2 (by omega)
theorem refMap_eq {p b : Int} : ∀ (l : List Chg) (last : Chg) (f : Bool) (s : Int), normFrom last f l = true → mapTo p b l s = refMap p b l s
  | [], _, _, _, _ => rfl
  | c :: r, last, f, s, hn => by
    have h := normFrom_cons.1 hn
    have ok := okStep_iff.1 h.1
    have ih := refMap_eq (p := p) (b := b) r c false (c.2.1.2.1 - c.1.2.1) h.2
    rw [mapTo, refMap]
    by_cases h1 : p < c.1.1
    · rw [if_pos h1, if_neg (by omega), if_neg (by omega), refMap_before r c false s h.2 (by omega)]
    · rw [if_neg h1]
      by_cases h2 : p ≤ c.1.2.1
      · rw [if_pos h2, if_pos (show c.1.1 ≤ p ∧ p ≤ c.1.2.1 from ⟨by omega, h2⟩)]
      · rw [if_neg h2, if_neg (by omega), if_pos (by omega), ih]
theorem mapP_in {p : List Chg} {a b : Int} (hn : normal p = true) (h0 : 0 ≤ a) (h1 : a ≤ 1099511627776) (hb : b = 0 ∨ b = 1) : (mapP p a b).1 = mapTo a b p 0 := by
  rw [mapP, if_neg (by rw [hn]; decide), if_neg (by omega)]
theorem endOf_get {p : List Chg} (h : 0 < p.length) : endOf p = (p.getD (p.length - 1) zeroC).1.2.1 := by
  unfold endOf
  have : p.getLast? = some (p.getD (p.length - 1) zeroC) := by
    rw [List.getLast?_eq_getElem?, List.getD_eq_getElem?_getD, List.getElem?_eq_getElem (by omega)]
    rfl
  rw [this]
theorem end_take {p : List Chg} {k : Nat} (h : k < p.length) : endOf (p.take (k + 1)) = (p.getD k zeroC).1.2.1 := by
  unfold endOf
  rw [take_one zeroC h, List.getLast?_concat]
theorem d51 : Ty.dflt t51 = zeroC := rfl
theorem map_snoc {p : List Chg} {l : List Anc} {k : Nat} (h : k < l.length) : (l.take (k + 1)).map (moveA p) = (l.take k).map (moveA p) ++ [((l.getD k zA).1, (mapP p (l.getD k zA).2.1 (l.getD k zA).2.2.1).1, (l.getD k zA).2.2)] := by
  rw [take_snoc' h, List.map_append]
  rfl
theorem mapR_snoc {p : List Chg} {l : List Anc} {k : Nat} (h : k < l.length) : (l.take (k + 1)).map (moveR p) = (l.take k).map (moveR p) ++ [((l.getD k zA).1, refMap (l.getD k zA).2.1 (l.getD k zA).2.2.1 p 0, (l.getD k zA).2.2)] := by
  rw [take_snoc' h, List.map_append]
  rfl
theorem p17 : vc17 := by
  unfold vc17
  simp only [eq_self, true_and, and_true, decide_eq_true_eq, decide_eq_false_iff_not, beq_iff_eq, beq_eq_false_iff_ne, bne_iff_ne, bne_eq_false_iff_eq, Bool.not_eq_true', Bool.not_eq_false', ne_eq, imp_true_iff, implies_true]
  rintro ⟨s, p, ⟨⟩⟩
  simp only [d36, d51]
  rintro ⟨hl, hn0, hn1, hp⟩
  have hpm : p.length ≤ maxLen := by rw [maxLen_eq]; omega
  have r4 : normal p = false → (none, (4 : Int), ()) = shiftA s p := fun h => by rw [shiftA, if_pos h]
  have r1 : normal p = true → (endOf p > lenA s ∨ w64 (lenA s + delta p) > 1099511627776) → (none, (1 : Int), ()) = shiftA s p := fun h1 h2 => by
    rw [shiftA, if_neg (by rw [h1]; decide), if_pos h2]
  have fin : normal p = true → ¬ endOf p > lenA s → ¬ w64 (lenA s + delta p) > 1099511627776 → shiftA s p = newA (w64 (lenA s + delta p)) ((allA s).map (moveA p)) := fun h1 h2 h3 => by
    rw [shiftA, if_neg (by rw [h1]; decide), if_neg (by omega)]
  have hlast : 0 < p.length → (IntKind.i64.wrap ((p.length : Int) - 1)).toNat = p.length - 1 ∧ (0 ≤ IntKind.i64.wrap ((p.length : Int) - 1) ∧ IntKind.i64.wrap ((p.length : Int) - 1) < (p.length : Int)) := fun h => by
    have : IntKind.i64.wrap ((p.length : Int) - 1) = (p.length : Int) - 1 := by rw [wrap_eq]; omega
    rw [this]
    omega
  have hend0 : ¬ 0 < p.length → endOf p = 0 := fun h => by
    have : p = [] := List.eq_nil_of_length_eq_zero (by omega)
    rw [this]
    rfl
  have whole : ∀ n : Int, n = lenA s →
      p.length ≤ maxLen ∧ (normal p = false → (none, (4 : Int), ()) = shiftA s p) ∧ (normal p = true →
        ((p.length : Int) > 0 → (0 ≤ IntKind.i64.wrap ((p.length : Int) - 1) ∧ IntKind.i64.wrap ((p.length : Int) - 1) < (p.length : Int)) ∧
          ((p.getD (IntKind.i64.wrap ((p.length : Int) - 1)).toNat zeroC).1.2.1 > n → (none, (1 : Int), ()) = shiftA s p) ∧
          (¬ (p.getD (IntKind.i64.wrap ((p.length : Int) - 1)).toNat zeroC).1.2.1 > n → p.length ≤ maxLen ∧ (IntKind.i64.wrap (n + delta p) > 1099511627776 → (none, (1 : Int), ()) = shiftA s p) ∧
            (¬ IntKind.i64.wrap (n + delta p) > 1099511627776 → (allA s).length ≤ 10000 ∧ ∃ (Z : List Anc × Int × Unit → Prop), ∃ (μ : List Anc × Int × Unit → Nat), Z ([], 0, ()) ∧ ∀ (a : List Anc) (a_1 : Int), Z (a, a_1, ()) →
              (a_1 < ((allA s).length : Int) → (0 ≤ a_1 ∧ a_1 < ((allA s).length : Int)) ∧ p.length ≤ maxLen ∧ (a.length + [((((allA s).getD a_1.toNat zA).1, (mapP p ((allA s).getD a_1.toNat zA).2.1 ((allA s).getD a_1.toNat zA).2.2.1).1, ((allA s).getD a_1.toNat zA).2.2) : Anc)].length) * 24 ≤ 140737488355328 ∧
                a.length + [((((allA s).getD a_1.toNat zA).1, (mapP p ((allA s).getD a_1.toNat zA).2.1 ((allA s).getD a_1.toNat zA).2.2.1).1, ((allA s).getD a_1.toNat zA).2.2) : Anc)].length ≤ maxLen ∧
                Z (a ++ [(((allA s).getD a_1.toNat zA).1, (mapP p ((allA s).getD a_1.toNat zA).2.1 ((allA s).getD a_1.toNat zA).2.2.1).1, ((allA s).getD a_1.toNat zA).2.2)], IntKind.i64.wrap (a_1 + 1), ()) ∧
                μ (a ++ [(((allA s).getD a_1.toNat zA).1, (mapP p ((allA s).getD a_1.toNat zA).2.1 ((allA s).getD a_1.toNat zA).2.2.1).1, ((allA s).getD a_1.toNat zA).2.2)], IntKind.i64.wrap (a_1 + 1), ()) < μ (a, a_1, ())) ∧
              (¬ a_1 < ((allA s).length : Int) → p.length ≤ maxLen ∧ a.length ≤ maxLen ∧ newA (IntKind.i64.wrap (n + delta p)) a = shiftA s p)))) ∧
        (¬ (p.length : Int) > 0 → p.length ≤ maxLen ∧ (IntKind.i64.wrap (n + delta p) > 1099511627776 → (none, (1 : Int), ()) = shiftA s p) ∧
            (¬ IntKind.i64.wrap (n + delta p) > 1099511627776 → (allA s).length ≤ 10000 ∧ ∃ (Z : List Anc × Int × Unit → Prop), ∃ (μ : List Anc × Int × Unit → Nat), Z ([], 0, ()) ∧ ∀ (a : List Anc) (a_1 : Int), Z (a, a_1, ()) →
              (a_1 < ((allA s).length : Int) → (0 ≤ a_1 ∧ a_1 < ((allA s).length : Int)) ∧ p.length ≤ maxLen ∧ (a.length + [((((allA s).getD a_1.toNat zA).1, (mapP p ((allA s).getD a_1.toNat zA).2.1 ((allA s).getD a_1.toNat zA).2.2.1).1, ((allA s).getD a_1.toNat zA).2.2) : Anc)].length) * 24 ≤ 140737488355328 ∧
                a.length + [((((allA s).getD a_1.toNat zA).1, (mapP p ((allA s).getD a_1.toNat zA).2.1 ((allA s).getD a_1.toNat zA).2.2.1).1, ((allA s).getD a_1.toNat zA).2.2) : Anc)].length ≤ maxLen ∧
                Z (a ++ [(((allA s).getD a_1.toNat zA).1, (mapP p ((allA s).getD a_1.toNat zA).2.1 ((allA s).getD a_1.toNat zA).2.2.1).1, ((allA s).getD a_1.toNat zA).2.2)], IntKind.i64.wrap (a_1 + 1), ()) ∧
                μ (a ++ [(((allA s).getD a_1.toNat zA).1, (mapP p ((allA s).getD a_1.toNat zA).2.1 ((allA s).getD a_1.toNat zA).2.2.1).1, ((allA s).getD a_1.toNat zA).2.2)], IntKind.i64.wrap (a_1 + 1), ()) < μ (a, a_1, ())) ∧
              (¬ a_1 < ((allA s).length : Int) → p.length ≤ maxLen ∧ a.length ≤ maxLen ∧ newA (IntKind.i64.wrap (n + delta p)) a = shiftA s p)))) := by
    rintro n rfl
    have loop : normal p = true → ¬ endOf p > lenA s → ¬ w64 (lenA s + delta p) > 1099511627776 → ∃ (Z : List Anc × Int × Unit → Prop), ∃ (μ : List Anc × Int × Unit → Nat), Z ([], 0, ()) ∧ ∀ (a : List Anc) (a_1 : Int), Z (a, a_1, ()) →
              (a_1 < ((allA s).length : Int) → (0 ≤ a_1 ∧ a_1 < ((allA s).length : Int)) ∧ p.length ≤ maxLen ∧ (a.length + [((((allA s).getD a_1.toNat zA).1, (mapP p ((allA s).getD a_1.toNat zA).2.1 ((allA s).getD a_1.toNat zA).2.2.1).1, ((allA s).getD a_1.toNat zA).2.2) : Anc)].length) * 24 ≤ 140737488355328 ∧
                a.length + [((((allA s).getD a_1.toNat zA).1, (mapP p ((allA s).getD a_1.toNat zA).2.1 ((allA s).getD a_1.toNat zA).2.2.1).1, ((allA s).getD a_1.toNat zA).2.2) : Anc)].length ≤ maxLen ∧
                Z (a ++ [(((allA s).getD a_1.toNat zA).1, (mapP p ((allA s).getD a_1.toNat zA).2.1 ((allA s).getD a_1.toNat zA).2.2.1).1, ((allA s).getD a_1.toNat zA).2.2)], IntKind.i64.wrap (a_1 + 1), ()) ∧
                μ (a ++ [(((allA s).getD a_1.toNat zA).1, (mapP p ((allA s).getD a_1.toNat zA).2.1 ((allA s).getD a_1.toNat zA).2.2.1).1, ((allA s).getD a_1.toNat zA).2.2)], IntKind.i64.wrap (a_1 + 1), ()) < μ (a, a_1, ())) ∧
              (¬ a_1 < ((allA s).length : Int) → p.length ≤ maxLen ∧ a.length ≤ maxLen ∧ newA (IntKind.i64.wrap (lenA s + delta p)) a = shiftA s p) := by
      intro h1 h2 h3
      rw [fin h1 h2 h3]
      generalize allA s = l at hl ⊢
      refine ⟨fun z => ∃ k : Nat, k ≤ l.length ∧ z.2.1 = (k : Int) ∧ z.1 = (l.take k).map (moveA p), fun z => l.length - z.2.1.toNat, ⟨0, Nat.zero_le _, rfl, rfl⟩, ?_⟩
      rintro a i ⟨k, hk, hi, ha⟩
      simp only at hi ha
      subst hi
      have hal : a.length = k := by rw [ha]; simp; omega
      refine ⟨fun h => ?_, fun h => ?_⟩
      · have hlt : k < l.length := by omega
        have hw : IntKind.i64.wrap ((k : Int) + 1) = ((k + 1 : Nat) : Int) := wrap_succ (by omega)
        have hm := map_snoc (p := p) hlt
        rw [toNat_cast, hw]
        rw [maxLen_eq] at hpm ⊢
        simp only [List.length_singleton, toNat_cast]
        exact ⟨⟨by omega, h⟩, by omega, by omega, by omega, ⟨k + 1, hlt, rfl, by rw [hm, ha]⟩, by omega⟩
      · have hke : k = l.length := by omega
        rw [hke, List.take_length] at ha
        rw [maxLen_eq] at hpm ⊢
        refine ⟨hpm, by omega, ?_⟩
        rw [ha]
        rfl
    refine ⟨hpm, r4, fun h1 => ⟨fun h2 => ?_, fun h2 => ?_⟩⟩
    · obtain ⟨q1, q2⟩ := hlast (by omega)
      rw [q1, ← endOf_get (by omega)]
      exact ⟨q2, fun h3 => r1 h1 (.inl h3), fun h3 => ⟨hpm, fun h4 => r1 h1 (.inr h4), fun h4 => ⟨hl, loop h1 h3 h4⟩⟩⟩
    · have h3 : ¬ endOf p > lenA s := by rw [hend0 (by omega)]; omega
      exact ⟨hpm, fun h4 => r1 h1 (.inr h4), fun h4 => ⟨hl, loop h1 h3 h4⟩⟩
  refine ⟨fun h => ⟨h, ?_⟩, fun h => ?_⟩
  · cases s with
    | none => cases h
    | some s => exact whole s.1 rfl
  · cases s with
    | some s => cases h
    | none => exact whole 0 rfl
theorem p20 : vc20 := by
  unfold vc20
  simp only [eq_self, true_and, and_true, decide_eq_true_eq, decide_eq_false_iff_not, beq_iff_eq, beq_eq_false_iff_ne, bne_iff_ne, bne_eq_false_iff_eq, Bool.not_eq_true', Bool.not_eq_false', ne_eq, imp_true_iff, implies_true]
  rintro ⟨l, p, ⟨⟩⟩
  simp only [d35]
  rintro ⟨hl, hp, hn, hb⟩
  replace hb : ∀ a ∈ l, (0 : Int) ≤ a.2.1 ∧ a.2.1 ≤ (1099511627776 : Int) := hb
  refine ⟨fun z => ∃ k : Nat, k ≤ l.length ∧ z.2.1 = (k : Int) ∧ z.1 = (l.take k).map (moveR p), fun z => l.length - z.2.1.toNat, ⟨0, Nat.zero_le _, rfl, rfl⟩, ?_⟩
  rintro a i ⟨k, hk, hi, ha⟩
  simp only at hi ha
  subst hi
  have hal : a.length = k := by rw [ha]; simp; omega
  have hpm : p.length ≤ maxLen := by rw [maxLen_eq]; omega
  refine ⟨fun h => ⟨⟨by omega, h⟩, ?_⟩, fun h => ?_⟩
  · have hlt : k < l.length := by omega
    have hw : IntKind.i64.wrap ((k : Int) + 1) = ((k + 1 : Nat) : Int) := wrap_succ (by omega)
    have hm := mapR_snoc (p := p) hlt
    have hbk := hb _ (List.getElem_mem hlt)
    rw [← getD_of zA hlt] at hbk
    rw [toNat_cast, hw]
    rw [maxLen_eq] at hpm ⊢
    simp only [List.length_singleton, toNat_cast]
    have f1 : (a.length + 1) * 24 ≤ 140737488355328 := by omega
    have f2 : a.length + 1 ≤ 9223372036854775807 := by omega
    have f3 : ∃ k' : Nat, k' ≤ l.length ∧ ((k + 1 : Nat) : Int) = (k' : Int) ∧ a ++ [((l.getD k zA).1, refMap (l.getD k zA).2.1 (l.getD k zA).2.2.1 p 0, (l.getD k zA).2.2)] = (l.take k').map (moveR p) := ⟨k + 1, hlt, rfl, by rw [hm, ha]⟩
    have f4 : l.length - (k + 1) < l.length - k := by omega
    have f5 := hbk.1
    have f6 := hbk.2
    repeat' apply And.intro
    all_goals assumption
  · have hke : k = l.length := by omega
    rw [hke, List.take_length] at ha
    refine ⟨by omega, ?_⟩
    rw [ha]
end Go.Fr.C11
