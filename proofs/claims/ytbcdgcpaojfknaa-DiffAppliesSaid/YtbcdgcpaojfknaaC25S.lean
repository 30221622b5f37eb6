/-
  Chapter 25: rows in the place of others: proofs of the conditions. Conditions: none.
-/
import Derived.Test.YtbcdgcpaojfknaaC25N
import Derived.Test.YtbcdgcpaojfknaaC25R
namespace Go.Fr.C25
open Go Go.Fr Go.Proofs

theorem cellEq_iff {a b : Cell} : cellEq a b = true ↔ a = b := by
  obtain ⟨a1, a2, a3, a4, ⟨⟩⟩ := a
  obtain ⟨b1, b2, b3, b4, ⟨⟩⟩ := b
  show (a1 == b1 && (a2 == b2 && (a3 == b3 && (a4 == b4 && true)))) = true ↔ _
  simp
theorem p33 : vc33 := by
  unfold vc33
  simp only [eq_self, true_and, and_true, decide_eq_true_eq, decide_eq_false_iff_not, beq_iff_eq, beq_eq_false_iff_ne, bne_iff_ne, bne_eq_false_iff_eq, Bool.not_eq_true', Bool.not_eq_false', ne_eq, imp_true_iff, implies_true]
  rintro ⟨a, b, ⟨⟩⟩
  simp only
  rintro ⟨la, lb⟩
  rw [maxLen_eq] at la lb
  rw [d41]
  have no : ¬ (all2 cellEq a b = true) → false = all2 cellEq a b := eq_false_of
  have key := @all2_iff Cell cellEq zCell a b
  refine ⟨fun z => ∃ k : Nat, k ≤ a.length ∧ z.1 = (k : Int) ∧ ∀ j, j < k → cellEq (a.getD j zCell) (b.getD j zCell) = true, fun z => a.length - z.1.toNat, ⟨0, Nat.zero_le _, rfl, fun j hj => by omega⟩, ?_⟩
  rintro i ⟨k, hk, hi, hs⟩
  simp only at hi
  subst hi
  refine ⟨fun h => ?_, fun h => ?_⟩
  · have hl : k < a.length := by omega
    have hw : IntKind.i64.wrap ((k : Int) + 1) = ((k + 1 : Nat) : Int) := wrap_succ (by omega)
    rw [toNat_cast, hw]
    refine ⟨fun g => no (fun h => by have := (key.1 h).1; omega), fun g => ⟨⟨by omega, h⟩, ⟨by omega, by omega⟩, fun g => no (fun h => by have h2 : Ty.beq t41 (a.getD k zCell) (b.getD k zCell) = true := (key.1 h).2 k hl; rw [g] at h2; cases h2), fun g => ⟨⟨k + 1, hl, rfl, all2_so_far hs g⟩, ?_⟩⟩⟩
    show a.length - (((k + 1 : Nat) : Int)).toNat < a.length - (k : Int).toNat
    rw [toNat_cast, toNat_cast]; omega
  · have : k = a.length := by omega
    subst this
    rw [Bool.eq_iff_iff, key]
    simp only [beq_iff_eq]
    exact ⟨fun h => ⟨by omega, hs⟩, fun h => by omega⟩
theorem p31 : vc31 := by
  unfold vc31
  simp only [beqB]
  simp only [eq_self, true_and, and_true, decide_eq_true_eq, decide_eq_false_iff_not, beq_iff_eq, beq_eq_false_iff_ne, bne_iff_ne, bne_eq_false_iff_eq, Bool.not_eq_true', Bool.not_eq_false', ne_eq, imp_true_iff, implies_true]
  rintro ⟨a, b, ⟨⟩⟩
  simp only
  rintro ⟨la, lb⟩
  have key : rowEq a b = true ↔ all2 cellEq a.1 b.1 = true ∧ a.2.1 = b.2.1 ∧ a.2.2.1 = b.2.2.1 ∧ a.2.2.2.1 = b.2.2.2.1 ∧ a.2.2.2.2.1 = b.2.2.2.2.1 ∧ a.2.2.2.2.2.1 = b.2.2.2.2.2.1 ∧ a.2.2.2.2.2.2.1 = b.2.2.2.2.2.2.1 := by
    simp only [rowEq, Bool.and_eq_true, beq_iff_eq, decide_eq_true_eq]
  have no : ¬ (rowEq a b = true) → false = rowEq a b := eq_false_of
  rw [key] at no
  refine ⟨⟨la, lb⟩, fun h1 => ⟨fun h2 => ⟨fun h3 => ⟨fun h4 => ⟨fun h5 => ⟨fun h6 => ?_, fun h6 => no (fun h => h6 h.2.2.2.2.2.1)⟩, fun h5 => no (fun h => h5 h.2.2.2.2.1)⟩, fun h4 => no (fun h => h4 h.2.2.2.1)⟩, fun h3 => no (fun h => h3 h.2.2.1)⟩, fun h2 => no (fun h => h2 h.2.1)⟩, fun h1 => no (fun h => by rw [h1] at h; cases h.1)⟩
  rw [Bool.eq_iff_iff, key]
  simp only [beq_iff_eq]
  exact ⟨fun h => ⟨h1, h2, h3, h4, h5, h6, h⟩, fun h => h.2.2.2.2.2.2⟩
theorem p20 : vc20 := by
  unfold vc20
  simp only [eq_self, true_and, and_true, decide_eq_true_eq, decide_eq_false_iff_not, beq_iff_eq, beq_eq_false_iff_ne, bne_iff_ne, bne_eq_false_iff_eq, Bool.not_eq_true', Bool.not_eq_false', ne_eq, imp_true_iff, implies_true]
  rintro ⟨a, b, ⟨⟩⟩
  simp only
  rintro ⟨⟨la, ra⟩, ⟨lb, rb⟩⟩
  rw [maxLen_eq] at la lb
  rw [d24]
  have no : ¬ (all2 rowEq a b = true) → false = all2 rowEq a b := eq_false_of
  have key := @all2_iff Row rowEq zRow a b
  refine ⟨fun z => ∃ k : Nat, k ≤ a.length ∧ z.1 = (k : Int) ∧ ∀ j, j < k → rowEq (a.getD j zRow) (b.getD j zRow) = true, fun z => a.length - z.1.toNat, ⟨0, Nat.zero_le _, rfl, fun j hj => by omega⟩, ?_⟩
  rintro i ⟨k, hk, hi, hs⟩
  simp only at hi
  subst hi
  refine ⟨fun h => ?_, fun h => ?_⟩
  · have hl : k < a.length := by omega
    have hw : IntKind.i64.wrap ((k : Int) + 1) = ((k + 1 : Nat) : Int) := wrap_succ (by omega)
    rw [toNat_cast, hw]
    refine ⟨fun g => no (fun h => by have := (key.1 h).1; omega), fun g => ⟨⟨by omega, h⟩, ⟨by omega, by omega⟩, ⟨?_, ?_⟩, fun g => no (fun h => by have h2 := (key.1 h).2 k hl; rw [g] at h2; cases h2), fun g => ⟨⟨k + 1, hl, rfl, all2_so_far hs g⟩, ?_⟩⟩⟩
    · rw [getD_of zRow hl]; exact ra _ (List.getElem_mem hl)
    · have hl2 : k < b.length := by omega
      rw [getD_of zRow hl2]; exact rb _ (List.getElem_mem hl2)
    · show a.length - (((k + 1 : Nat) : Int)).toNat < a.length - (k : Int).toNat
      rw [toNat_cast, toNat_cast]; omega
  · have : k = a.length := by omega
    subst this
    rw [Bool.eq_iff_iff, key]
    simp only [beq_iff_eq]
    exact ⟨fun h => ⟨by omega, hs⟩, fun h => by omega⟩
theorem flat_take {α : Type} {l : List (List α)} {k : Nat} (h : k < l.length) : (l.take (k + 1)).flatten = (l.take k).flatten ++ l.getD k [] := by
  rw [List.take_succ_eq_append_getElem h, List.flatten_append, getD_of [] h]
  simp
theorem flat_len {α : Type} {l : List (List α)} (hb : ∀ x ∈ l, x.length ≤ 1000) : ∀ k, (l.take k).flatten.length ≤ 1000 * k
  | 0 => by simp
  | k + 1 => by
    have ih := flat_len hb k
    by_cases h : k < l.length
    · rw [flat_take h, List.length_append]
      have := hb _ (List.getElem_mem h)
      rw [getD_of [] h]
      omega
    · rw [List.take_of_length_le (by omega)]
      rw [List.take_of_length_le (by omega)] at ih
      omega
theorem p30 : vc30 := by
  unfold vc30
  simp only [eq_self, true_and, and_true, decide_eq_true_eq, decide_eq_false_iff_not, beq_iff_eq, beq_eq_false_iff_ne, bne_iff_ne, bne_eq_false_iff_eq, Bool.not_eq_true', Bool.not_eq_false', ne_eq, imp_true_iff, implies_true]
  rintro ⟨l, ⟨⟩⟩
  simp only
  rintro ⟨hl, hb⟩
  have d30 : Ty.dflt t30 = ([] : List Row) := rfl
  rw [d30]
  have hgl : ∀ k, k < l.length → (l.getD k []).length ≤ 1000 := fun k hk => by rw [getD_of [] hk]; exact hb _ (List.getElem_mem hk)
  have loop2 : ∀ (xs : List Row) (i : Int), xs = [] → i = 0 → ∃ k : Nat, k ≤ l.length ∧ i = (k : Int) ∧ xs = (l.take k).flatten := fun xs i hx hi => ⟨0, Nat.zero_le _, hi, hx⟩
  have step2 : ∀ (xs : List Row) (i : Int), (∃ k : Nat, k ≤ l.length ∧ i = (k : Int) ∧ xs = (l.take k).flatten) →
      (i < (l.length : Int) → (0 ≤ i ∧ i < (l.length : Int)) ∧ (xs.length + (l.getD i.toNat []).length) * 64 ≤ 140737488355328 ∧ xs.length + (l.getD i.toNat []).length ≤ maxLen ∧
        (∃ k : Nat, k ≤ l.length ∧ IntKind.i64.wrap (i + 1) = (k : Int) ∧ xs ++ l.getD i.toNat [] = (l.take k).flatten) ∧ l.length - (IntKind.i64.wrap (i + 1)).toNat < l.length - i.toNat) ∧
      (¬ i < (l.length : Int) → xs = l.flatten) := by
    rintro xs i ⟨k, hk, rfl, rfl⟩
    refine ⟨fun h => ?_, fun h => ?_⟩
    · have hlt : k < l.length := by omega
      have hw : IntKind.i64.wrap ((k : Int) + 1) = ((k + 1 : Nat) : Int) := wrap_succ (by omega)
      have h1 := flat_len hb k
      have h2 := hgl k hlt
      rw [toNat_cast, hw, maxLen_eq]
      refine ⟨⟨by omega, h⟩, by omega, by omega, ⟨k + 1, hlt, rfl, (flat_take hlt).symm⟩, ?_⟩
      rw [toNat_cast]
      omega
    · have : k = l.length := by omega
      subst this
      rw [List.take_length]
  refine ⟨fun z => ∃ k : Nat, k ≤ l.length ∧ z.2.1 = (k : Int) ∧ 0 ≤ z.1 ∧ z.1 ≤ 1000 * (k : Int), fun z => l.length - z.2.1.toNat, ⟨0, Nat.zero_le _, rfl, by omega, by omega⟩, ?_⟩
  rintro s i ⟨k, hk, hi, hs0, hs1⟩
  simp only at hi hs0 hs1
  subst hi
  refine ⟨fun h => ?_, fun h => ?_⟩
  · have hlt : k < l.length := by omega
    have hw : IntKind.i64.wrap ((k : Int) + 1) = ((k + 1 : Nat) : Int) := wrap_succ (by omega)
    have h2 := hgl k hlt
    rw [toNat_cast, hw]
    have hw2 : IntKind.i64.wrap (s + ((l.getD k []).length : Int)) = s + ((l.getD k []).length : Int) := by rw [wrap_eq]; omega
    rw [hw2]
    refine ⟨⟨by omega, h⟩, fun g => by omega, fun g => ⟨⟨k + 1, hlt, rfl, by omega, ?_⟩, ?_⟩⟩
    · simp only
      omega
    · show l.length - (((k + 1 : Nat) : Int)).toNat < l.length - (k : Int).toNat
      rw [toNat_cast, toNat_cast]; omega
  · have hs3 : s ≤ 3000 := by omega
    have hw : IntKind.i64.wrap (s - IntKind.i64.wrap (0 - 0)) = s := by rw [wrap_eq, wrap_eq]; omega
    rw [hw]
    refine ⟨fun g => by omega, fun g => ⟨fun g2 => ?_, fun g2 => ?_⟩⟩
    · refine ⟨⟨by omega, by omega⟩, ?_, ?_, ?_, ?_⟩
      · simp; omega
      · simp [maxLen_eq]; omega
      · simp; omega
      · exact ⟨fun z => ∃ k : Nat, k ≤ l.length ∧ z.2.1 = (k : Int) ∧ z.1 = (l.take k).flatten, fun z => l.length - z.2.1.toNat, loop2 _ _ (by simp) rfl, fun xs i hz => step2 xs i hz⟩
    · exact ⟨fun z => ∃ k : Nat, k ≤ l.length ∧ z.2.1 = (k : Int) ∧ z.1 = (l.take k).flatten, fun z => l.length - z.2.1.toNat, loop2 _ _ rfl rfl, fun xs i hz => step2 xs i hz⟩
end Go.Fr.C25
