/-
  Chapter 25: proofs of the conditions, third part: the least patch, and the laws. Conditions: none.
-/
import Derived.Test.YtbcdgcpaojfknaaC25Q
namespace Go.Fr.C25
open Go Go.Fr Go.Proofs

abbrev mst (a b : List Row) : Int := if (b.length : Int) < (a.length : Int) then (b.length : Int) else (a.length : Int)
/-- How many are alike at the beginning. -/
abbrev Pre (a b : List Row) (n : Nat) : Prop := n ≤ a.length ∧ n ≤ b.length ∧ (∀ j, j < n → same (a.getD j zRow) (b.getD j zRow) = true) ∧ (a.length ≤ n ∨ b.length ≤ n ∨ same (a.getD n zRow) (b.getD n zRow) = false)
theorem last17 {a b : List Row} (la : rows a) (lb : rows b) {n : Nat} (hn : Pre a b n) :
    ∃ (Z : Int × Unit → Prop), ∃ (μ : Int × Unit → Nat), Z ((0 : Int), ()) ∧ ∀ (i : Int), Z (i, ()) →
      (i < IntKind.i64.wrap (mst a b - (n : Int)) →
        ((0 : Int) ≤ IntKind.i64.wrap (IntKind.i64.wrap ((a.length : Int) - 1) - i) ∧ IntKind.i64.wrap (IntKind.i64.wrap ((a.length : Int) - 1) - i) < (a.length : Int)) ∧
        ((0 : Int) ≤ IntKind.i64.wrap (IntKind.i64.wrap ((b.length : Int) - 1) - i) ∧ IntKind.i64.wrap (IntKind.i64.wrap ((b.length : Int) - 1) - i) < (b.length : Int)) ∧
        ((a.getD (IntKind.i64.wrap (IntKind.i64.wrap ((a.length : Int) - 1) - i)).toNat zRow).1.length ≤ maxLen ∧ (b.getD (IntKind.i64.wrap (IntKind.i64.wrap ((b.length : Int) - 1) - i)).toNat zRow).1.length ≤ maxLen) ∧
        (same (a.getD (IntKind.i64.wrap (IntKind.i64.wrap ((a.length : Int) - 1) - i)).toNat zRow) (b.getD (IntKind.i64.wrap (IntKind.i64.wrap ((b.length : Int) - 1) - i)).toNat zRow) = true →
          Z (IntKind.i64.wrap (i + 1), ()) ∧ μ (IntKind.i64.wrap (i + 1), ()) < μ (i, ())) ∧
        (same (a.getD (IntKind.i64.wrap (IntKind.i64.wrap ((a.length : Int) - 1) - i)).toNat zRow) (b.getD (IntKind.i64.wrap (IntKind.i64.wrap ((b.length : Int) - 1) - i)).toNat zRow) = false →
          ((n : Int), IntKind.i64.wrap ((a.length : Int) - i), (n : Int), IntKind.i64.wrap ((b.length : Int) - i), ()) = least a b)) ∧
      (¬ i < IntKind.i64.wrap (mst a b - (n : Int)) → ((n : Int), IntKind.i64.wrap ((a.length : Int) - i), (n : Int), IntKind.i64.wrap ((b.length : Int) - i), ()) = least a b) := by
  have na := la.1
  have nb := lb.1
  rw [maxLen_eq] at na nb
  have hm : mst a b = ((min a.length b.length : Nat) : Int) := by unfold mst; split <;> omega
  obtain ⟨n1, n2, n3, n4⟩ := hn
  have hw0 : IntKind.i64.wrap (mst a b - (n : Int)) = ((min a.length b.length - n : Nat) : Int) := by rw [hm, wrap_eq]; omega
  rw [hw0]
  refine ⟨fun z => ∃ m : Nat, m + n ≤ a.length ∧ m + n ≤ b.length ∧ z.1 = (m : Int) ∧ ∀ j, j < m → same (a.getD (a.length - 1 - j) zRow) (b.getD (b.length - 1 - j) zRow) = true, fun z => a.length - z.1.toNat, ⟨0, by omega, by omega, rfl, fun j hj => by omega⟩, ?_⟩
  rintro i ⟨m, m1, m2, hi, hs⟩
  simp only at hi
  subst hi
  have hw3 : IntKind.i64.wrap ((a.length : Int) - (m : Int)) = (a.length : Int) - (m : Int) := by rw [wrap_eq]; omega
  have hw4 : IntKind.i64.wrap ((b.length : Int) - (m : Int)) = (b.length : Int) - (m : Int) := by rw [wrap_eq]; omega
  rw [hw3, hw4]
  refine ⟨fun h => ?_, fun h => (least_is ⟨n1, n2, n3, n4⟩ ⟨m1, m2, hs, by omega⟩).symm⟩
  have hw : IntKind.i64.wrap ((m : Int) + 1) = ((m + 1 : Nat) : Int) := wrap_succ (by omega)
  have hw1 : IntKind.i64.wrap (IntKind.i64.wrap ((a.length : Int) - 1) - (m : Int)) = ((a.length - 1 - m : Nat) : Int) := by simp only [wrap_eq]; omega
  have hw2 : IntKind.i64.wrap (IntKind.i64.wrap ((b.length : Int) - 1) - (m : Int)) = ((b.length - 1 - m : Nat) : Int) := by simp only [wrap_eq]; omega
  rw [hw, hw1, hw2, toNat_cast, toNat_cast]
  have ma : a.getD (a.length - 1 - m) zRow ∈ a := by rw [getD_of _ (by omega)]; exact List.getElem_mem _
  have mb : b.getD (b.length - 1 - m) zRow ∈ b := by rw [getD_of _ (by omega)]; exact List.getElem_mem _
  refine ⟨by omega, by omega, ⟨la.2 _ ma, lb.2 _ mb⟩, fun g => ⟨⟨m + 1, by omega, by omega, rfl, fun j hj => ?_⟩, ?_⟩, fun g => (least_is ⟨n1, n2, n3, n4⟩ ⟨m1, m2, hs, Or.inr (Or.inr g)⟩).symm⟩
  · by_cases e : j = m
    · subst e; exact g
    · exact hs j (by omega)
  · show a.length - (((m + 1 : Nat) : Int)).toNat < a.length - (m : Int).toNat
    rw [toNat_cast, toNat_cast]; omega
theorem p17 : vc17 := by
  unfold vc17
  simp only [eq_self, true_and, and_true, decide_eq_true_eq, decide_eq_false_iff_not, beq_iff_eq, beq_eq_false_iff_ne, bne_iff_ne, bne_eq_false_iff_eq, Bool.not_eq_true', Bool.not_eq_false', ne_eq, imp_true_iff, implies_true]
  rintro ⟨a, b, ⟨⟩⟩
  simp only
  rintro ⟨la, lb⟩
  have na := la.1
  have nb := lb.1
  rw [maxLen_eq] at na nb
  rw [d24]
  have hm : mst a b = ((min a.length b.length : Nat) : Int) := by unfold mst; split <;> omega
  refine ⟨fun z => ∃ k : Nat, k ≤ a.length ∧ k ≤ b.length ∧ z.1 = (k : Int) ∧ ∀ j, j < k → same (a.getD j zRow) (b.getD j zRow) = true, fun z => a.length - z.1.toNat, ⟨0, Nat.zero_le _, Nat.zero_le _, rfl, fun j hj => by omega⟩, ?_⟩
  rintro i ⟨k, hk, hkb, hi, hs⟩
  simp only at hi
  subst hi
  refine ⟨fun h => ?_, fun h => ?_⟩
  · replace h : (k : Int) < mst a b := h
    have hl : k < a.length := by omega
    have hlb : k < b.length := by omega
    have hw : IntKind.i64.wrap ((k : Int) + 1) = ((k + 1 : Nat) : Int) := wrap_succ (by omega)
    rw [toNat_cast, hw]
    have ma : a.getD k zRow ∈ a := by rw [getD_of _ hl]; exact List.getElem_mem _
    have mb : b.getD k zRow ∈ b := by rw [getD_of _ hlb]; exact List.getElem_mem _
    refine ⟨by omega, by omega, ⟨la.2 _ ma, lb.2 _ mb⟩, fun g => ⟨⟨k + 1, by omega, by omega, rfl, all2_so_far hs g⟩, ?_⟩, fun g => ?_⟩
    · show a.length - (((k + 1 : Nat) : Int)).toNat < a.length - (k : Int).toNat
      rw [toNat_cast, toNat_cast]; omega
    · exact last17 la lb ⟨hk, hkb, hs, Or.inr (Or.inr g)⟩
  · replace h : ¬ (k : Int) < mst a b := h
    exact last17 la lb ⟨hk, hkb, hs, by omega⟩
theorem last18 {a b : List Row} (la : rows a) (lb : rows b) {n : Nat} (hn : Pre a b n) :
    ∃ (Z : Int × Int × Unit → Prop), ∃ (μ : Int × Int × Unit → Nat), Z ((a.length : Int), (b.length : Int), ()) ∧ ∀ (u v : Int), Z (u, v, ()) →
      (u > (n : Int) → (v > (n : Int) →
        ((0 : Int) ≤ IntKind.i64.wrap (u - 1) ∧ IntKind.i64.wrap (u - 1) < (a.length : Int)) ∧ ((0 : Int) ≤ IntKind.i64.wrap (v - 1) ∧ IntKind.i64.wrap (v - 1) < (b.length : Int)) ∧
        ((a.getD (IntKind.i64.wrap (u - 1)).toNat zRow).1.length ≤ maxLen ∧ (b.getD (IntKind.i64.wrap (v - 1)).toNat zRow).1.length ≤ maxLen) ∧
        (same (a.getD (IntKind.i64.wrap (u - 1)).toNat zRow) (b.getD (IntKind.i64.wrap (v - 1)).toNat zRow) = true → Z (IntKind.i64.wrap (u - 1), IntKind.i64.wrap (v - 1), ()) ∧ μ (IntKind.i64.wrap (u - 1), IntKind.i64.wrap (v - 1), ()) < μ (u, v, ())) ∧
        (same (a.getD (IntKind.i64.wrap (u - 1)).toNat zRow) (b.getD (IntKind.i64.wrap (v - 1)).toNat zRow) = false → ((n : Int), u, (n : Int), v, ()) = least a b)) ∧
        (¬ v > (n : Int) → ((n : Int), u, (n : Int), v, ()) = least a b)) ∧
      (¬ u > (n : Int) → ((n : Int), u, (n : Int), v, ()) = least a b) := by
  have na := la.1
  have nb := lb.1
  rw [maxLen_eq] at na nb
  obtain ⟨n1, n2, n3, n4⟩ := hn
  refine ⟨fun z => ∃ m : Nat, m + n ≤ a.length ∧ m + n ≤ b.length ∧ z.1 = (a.length : Int) - (m : Int) ∧ z.2.1 = (b.length : Int) - (m : Int) ∧ ∀ j, j < m → same (a.getD (a.length - 1 - j) zRow) (b.getD (b.length - 1 - j) zRow) = true, fun z => z.1.toNat, ⟨0, by omega, by omega, by simp only; omega, by simp only; omega, fun j hj => by omega⟩, ?_⟩
  rintro u v ⟨m, m1, m2, hu, hv, hs⟩
  simp only at hu hv
  subst hu hv
  refine ⟨fun h1 => ⟨fun h2 => ?_, fun h2 => (least_is ⟨n1, n2, n3, n4⟩ ⟨m1, m2, hs, by omega⟩).symm⟩, fun h1 => (least_is ⟨n1, n2, n3, n4⟩ ⟨m1, m2, hs, by omega⟩).symm⟩
  have hw1 : IntKind.i64.wrap ((a.length : Int) - (m : Int) - 1) = ((a.length - 1 - m : Nat) : Int) := by simp only [wrap_eq]; omega
  have hw2 : IntKind.i64.wrap ((b.length : Int) - (m : Int) - 1) = ((b.length - 1 - m : Nat) : Int) := by simp only [wrap_eq]; omega
  rw [hw1, hw2, toNat_cast, toNat_cast]
  have ma : a.getD (a.length - 1 - m) zRow ∈ a := by rw [getD_of _ (by omega)]; exact List.getElem_mem _
  have mb : b.getD (b.length - 1 - m) zRow ∈ b := by rw [getD_of _ (by omega)]; exact List.getElem_mem _
  refine ⟨by omega, by omega, ⟨la.2 _ ma, lb.2 _ mb⟩, fun g => ⟨⟨m + 1, by omega, by omega, by simp only; omega, by simp only; omega, fun j hj => ?_⟩, ?_⟩, fun g => (least_is ⟨n1, n2, n3, n4⟩ ⟨m1, m2, hs, Or.inr (Or.inr g)⟩).symm⟩
  · by_cases e : j = m
    · subst e; exact g
    · exact hs j (by omega)
  · show (((a.length - 1 - m : Nat) : Int)).toNat < ((a.length : Int) - (m : Int)).toNat
    omega
theorem p18 : vc18 := by
  unfold vc18
  simp only [eq_self, true_and, and_true, decide_eq_true_eq, decide_eq_false_iff_not, beq_iff_eq, beq_eq_false_iff_ne, bne_iff_ne, bne_eq_false_iff_eq, Bool.not_eq_true', Bool.not_eq_false', ne_eq, imp_true_iff, implies_true]
  rintro ⟨a, b, ⟨⟩⟩
  simp only
  rintro ⟨la, lb⟩
  have na := la.1
  have nb := lb.1
  rw [maxLen_eq] at na nb
  rw [d24]
  refine ⟨fun z => ∃ k : Nat, k ≤ a.length ∧ k ≤ b.length ∧ z.1 = (k : Int) ∧ ∀ j, j < k → same (a.getD j zRow) (b.getD j zRow) = true, fun z => a.length - z.1.toNat, ⟨0, Nat.zero_le _, Nat.zero_le _, rfl, fun j hj => by omega⟩, ?_⟩
  rintro i ⟨k, hk, hkb, hi, hs⟩
  simp only at hi
  subst hi
  refine ⟨fun h => ⟨fun h2 => ?_, fun h2 => last18 la lb ⟨hk, hkb, hs, by omega⟩⟩, fun h => last18 la lb ⟨hk, hkb, hs, by omega⟩⟩
  have hl : k < a.length := by omega
  have hlb : k < b.length := by omega
  have hw : IntKind.i64.wrap ((k : Int) + 1) = ((k + 1 : Nat) : Int) := wrap_succ (by omega)
  rw [toNat_cast, hw]
  have ma : a.getD k zRow ∈ a := by rw [getD_of _ hl]; exact List.getElem_mem _
  have mb : b.getD k zRow ∈ b := by rw [getD_of _ hlb]; exact List.getElem_mem _
  refine ⟨by omega, by omega, ⟨la.2 _ ma, lb.2 _ mb⟩, fun g => ⟨⟨k + 1, by omega, by omega, rfl, all2_so_far hs g⟩, ?_⟩, fun g => last18 la lb ⟨hk, hkb, hs, Or.inr (Or.inr g)⟩⟩
  show a.length - (((k + 1 : Nat) : Int)).toNat < a.length - (k : Int).toNat
  rw [toNat_cast, toNat_cast]; omega
theorem firsts_spec : ∀ (a b : List Row), firsts a b ≤ a.length ∧ firsts a b ≤ b.length ∧ ∀ j, j < firsts a b → same (a.getD j zRow) (b.getD j zRow) = true
  | [], _ => ⟨Nat.le_refl _, Nat.zero_le _, fun j hj => by simp [firsts] at hj⟩
  | _ :: _, [] => ⟨Nat.zero_le _, Nat.le_refl _, fun j hj => by simp [firsts] at hj⟩
  | a :: r, b :: s => by
    have ih := firsts_spec r s
    simp only [firsts]
    by_cases h : same a b = true
    · rw [if_pos h]
      refine ⟨by simp; omega, by simp; omega, fun j hj => ?_⟩
      cases j with
      | zero => exact h
      | succ j => exact ih.2.2 j (by omega)
    · rw [if_neg h]
      exact ⟨Nat.zero_le _, Nat.zero_le _, fun j hj => by omega⟩
/-- The least patch is sound. -/
theorem least_sound (a b : List Row) : sound a b (least a b) = true := by
  have f1 := firsts_spec a b
  have f2 := firsts_spec a.reverse b.reverse
  have f3 := f2.2.2
  simp only [List.length_reverse] at f2
  have hm : ∃ m, m = min (firsts a.reverse b.reverse) (min a.length b.length - firsts a b) ∧ m ≤ firsts a.reverse b.reverse ∧ m + firsts a b ≤ a.length ∧ m + firsts a b ≤ b.length := by
    have g1 : min a.length b.length ≤ a.length := Nat.min_le_left _ _
    have g2 : min a.length b.length ≤ b.length := Nat.min_le_right _ _
    have g3 : firsts a b ≤ min a.length b.length := Nat.le_min.2 ⟨f1.1, f1.2.1⟩
    have g4 : min (firsts a.reverse b.reverse) (min a.length b.length - firsts a b) ≤ min a.length b.length - firsts a b := Nat.min_le_right _ _
    refine ⟨_, rfl, Nat.min_le_left _ _, ?_, ?_⟩
    · generalize min (firsts a.reverse b.reverse) (min a.length b.length - firsts a b) = x at *
      generalize min a.length b.length = M at *
      omega
    · generalize min (firsts a.reverse b.reverse) (min a.length b.length - firsts a b) = x at *
      generalize min a.length b.length = M at *
      omega
  obtain ⟨m, e, m1, m2, m3⟩ := hm
  have el : least a b = ((firsts a b : Int), (a.length : Int) - (m : Int), (firsts a b : Int), (b.length : Int) - (m : Int), ()) := by
    unfold least; simp only; rw [← e]
  rw [el]
  clear e el
  have m0 : (firsts a b : Int) + (m : Int) ≤ a.length := by omega
  refine sound_iff.2 ⟨fits_iff.2 (by simp only; refine ⟨by omega, by omega, by omega, trivial, by omega, by omega, by omega⟩), fun j hj => f1.2.2 j (by simp only at hj; omega), fun j h1 h2 => ?_⟩
  simp only at h1 ⊢
  have := f3 (a.length - 1 - j) (by omega)
  rw [rev_get (by omega), rev_get (by omega)] at this
  have e1 : a.length - 1 - (a.length - 1 - j) = j := by omega
  have e2 : b.length - 1 - (a.length - 1 - j) = ((j : Int) - ((a.length : Int) - (m : Int)) + ((b.length : Int) - (m : Int))).toNat := by omega
  rw [e1, e2] at this
  exact this
theorem least_self (a : List Row) : least a a = ((a.length : Int), (a.length : Int), (a.length : Int), (a.length : Int), ()) := by
  have h : least a a = ((a.length : Int), (a.length : Int) - ((0 : Nat) : Int), (a.length : Int), (a.length : Int) - ((0 : Nat) : Int), ()) :=
    least_is ⟨Nat.le_refl _, Nat.le_refl _, fun j _ => same_self _, Or.inl (Nat.le_refl _)⟩ ⟨by omega, by omega, fun j hj => by omega, Or.inl (by omega)⟩
  rw [h]
  simp
theorem beq28 (p : RP) : Ty.beq t28 p p = true := by
  obtain ⟨a, b, c, d, ⟨⟩⟩ := p
  show (a == a && (b == b && (c == c && (d == d && true)))) = true
  simp
theorem p5 : vc5 := by
  unfold vc5
  simp only [beqB]
  rintro ⟨a, b, p, ⟨⟩⟩
  simp only
  rintro ⟨la, lb⟩
  simp [la, lb, la.1, lb.1]
theorem p6 : vc6 := by
  unfold vc6
  rintro ⟨a, b, ⟨⟩⟩
  simp only
  rintro ⟨la, lb⟩
  rw [least_self, beq28, least_sound]
  simp [la, lb, la.1, lb.1]
end Go.Fr.C25
