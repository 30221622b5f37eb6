/-
  Chapter 25: proofs of the conditions, second part. Conditions: none.
-/
import Derived.Test.YtbcdgcpaojfknaaC25P
namespace Go.Fr.C25
open Go Go.Fr Go.Proofs

theorem firsts_ge : ∀ {a b : List Row} {k : Nat}, k ≤ a.length → k ≤ b.length → (∀ j, j < k → same (a.getD j zRow) (b.getD j zRow) = true) → k ≤ firsts a b
  | _, _, 0, _, _, _ => Nat.zero_le _
  | [], _, k + 1, h, _, _ => by simp at h
  | _ :: _, [], k + 1, _, h, _ => by simp at h
  | a :: r, b :: s, k + 1, h1, h2, h => by
    have h0 : same a b = true := h 0 (by omega)
    simp only [firsts, h0, if_true]
    have := firsts_ge (a := r) (b := s) (k := k) (by simpa using h1) (by simpa using h2) (fun j hj => h (j + 1) (by omega))
    omega
theorem firsts_le : ∀ {a b : List Row} {k : Nat}, (a.length ≤ k ∨ b.length ≤ k ∨ same (a.getD k zRow) (b.getD k zRow) = false) → firsts a b ≤ k
  | [], _, k, _ => Nat.zero_le _
  | _ :: _, [], k, _ => Nat.zero_le _
  | a :: r, b :: s, 0, h => by
    have h0 : same a b = false := by
      rcases h with h | h | h
      · simp at h
      · simp at h
      · exact h
    simp [firsts, h0]
  | a :: r, b :: s, k + 1, h => by
    simp only [firsts]
    split
    · have := firsts_le (a := r) (b := s) (k := k) (by simpa using h)
      omega
    · exact Nat.zero_le _
theorem rev_get {a : List Row} {j : Nat} (h : j < a.length) : a.reverse.getD j zRow = a.getD (a.length - 1 - j) zRow := by
  rw [getD_of _ (by simpa using h), getD_of _ (by omega), List.getElem_reverse]
theorem least_is {a b : List Row} {n m : Nat} (hn : n ≤ a.length ∧ n ≤ b.length ∧ (∀ j, j < n → same (a.getD j zRow) (b.getD j zRow) = true) ∧ (a.length ≤ n ∨ b.length ≤ n ∨ same (a.getD n zRow) (b.getD n zRow) = false))
    (hm : m + n ≤ a.length ∧ m + n ≤ b.length ∧ (∀ j, j < m → same (a.getD (a.length - 1 - j) zRow) (b.getD (b.length - 1 - j) zRow) = true) ∧ (a.length ≤ m + n ∨ b.length ≤ m + n ∨ same (a.getD (a.length - 1 - m) zRow) (b.getD (b.length - 1 - m) zRow) = false)) :
    least a b = ((n : Int), (a.length : Int) - (m : Int), (n : Int), (b.length : Int) - (m : Int), ()) := by
  obtain ⟨n1, n2, n3, n4⟩ := hn
  obtain ⟨m1, m2, m3, m4⟩ := hm
  have e1 : firsts a b = n := Nat.le_antisymm (firsts_le n4) (firsts_ge n1 n2 n3)
  have g : m ≤ firsts a.reverse b.reverse := firsts_ge (by simp; omega) (by simp; omega) (fun j hj => by
    rw [rev_get (by omega), rev_get (by omega)]; exact m3 j hj)
  have e2 : min (firsts a.reverse b.reverse) (min a.length b.length - n) = m := by
    by_cases h : min a.length b.length ≤ m + n
    · omega
    · have : firsts a.reverse b.reverse ≤ m := firsts_le (by
        rcases m4 with h1 | h1 | h1
        · omega
        · omega
        · right; right
          rw [rev_get (by omega), rev_get (by omega)]; exact h1)
      omega
  unfold least
  simp only
  rw [e1, e2]
theorem p24 : vc24 := by
  unfold vc24
  simp only [eq_self, true_and, and_true, decide_eq_true_eq, decide_eq_false_iff_not, beq_iff_eq, beq_eq_false_iff_ne, bne_iff_ne, bne_eq_false_iff_eq, Bool.not_eq_true', Bool.not_eq_false', ne_eq, imp_true_iff, implies_true]
  rintro ⟨a, b, ⟨⟩⟩
  simp only
  rintro ⟨la, lb⟩
  have na := la.1
  have nb := lb.1
  rw [maxLen_eq] at na nb
  rw [d24]
  have no : ¬ (all2 same a b = true) → false = all2 same a b := eq_false_of
  rw [all2_iff zRow] at no
  refine ⟨fun h1 => no (by omega), fun h1 => ?_⟩
  refine ⟨fun z => ∃ k : Nat, k ≤ a.length ∧ z.1 = (k : Int) ∧ ∀ j, j < k → same (a.getD j zRow) (b.getD j zRow) = true, fun z => a.length - z.1.toNat, ⟨0, Nat.zero_le _, rfl, fun j hj => by omega⟩, ?_⟩
  rintro i ⟨k, hk, hi, hs⟩
  simp only at hi
  subst hi
  refine ⟨fun h => ?_, fun h => ?_⟩
  · have hl : k < a.length := by omega
    have hlb : k < b.length := by omega
    have hw : IntKind.i64.wrap ((k : Int) + 1) = ((k + 1 : Nat) : Int) := wrap_succ (by omega)
    rw [toNat_cast, hw]
    have ma : a.getD k zRow ∈ a := by rw [getD_of _ hl]; exact List.getElem_mem _
    have mb : b.getD k zRow ∈ b := by rw [getD_of _ hlb]; exact List.getElem_mem _
    refine ⟨⟨by omega, h⟩, ⟨by omega, by omega⟩, ⟨la.2 _ ma, lb.2 _ mb⟩, fun g => no (fun h => by have := h.2 k hl; rw [g] at this; cases this), fun g => ⟨⟨k + 1, hl, rfl, all2_so_far hs g⟩, ?_⟩⟩
    show a.length - (((k + 1 : Nat) : Int)).toNat < a.length - (k : Int).toNat
    rw [toNat_cast, toNat_cast]; omega
  · have : k = a.length := by omega
    subst this
    exact ((all2_iff zRow).2 ⟨by omega, hs⟩).symm
theorem rows_take {l : List Row} (h : rows l) (k : Nat) : rows (l.take k) := ⟨by have := h.1; rw [List.length_take]; omega, fun r hr => h.2 r (List.mem_of_mem_take hr)⟩
theorem rows_drop {l : List Row} (h : rows l) (k : Nat) : rows (l.drop k) := ⟨by have := h.1; rw [List.length_drop]; omega, fun r hr => h.2 r (List.mem_of_mem_drop hr)⟩
theorem p15 : vc15 := by
  unfold vc15
  rintro ⟨a, b, p, ⟨⟩⟩
  simp only
  rintro ⟨la, lb⟩
  have na := la.1
  have nb := lb.1
  rw [maxLen_eq] at na nb
  refine ⟨⟨by omega, by omega⟩, fun h => ?_, fun h => by unfold sound; rw [h]; rfl⟩
  have hf := fits_iff.1 h
  refine ⟨by omega, by omega, ⟨rows_take la _, rows_take lb _⟩, fun h2 => ⟨by omega, by omega, ⟨rows_drop la _, rows_drop lb _⟩, ?_⟩, fun h2 => ?_⟩
  · unfold sound; rw [h, h2]; rfl
  · unfold sound; rw [h, h2]; rfl
theorem sound_iff {a b : List Row} {p : RP} : sound a b p = true ↔ fits p a.length b.length = true ∧ (∀ j : Nat, (j : Int) < p.1 → same (a.getD j zRow) (b.getD j zRow) = true) ∧
    ∀ j : Nat, p.2.1 ≤ (j : Int) → j < a.length → same (a.getD j zRow) (b.getD ((j : Int) - p.2.1 + p.2.2.2.1).toNat zRow) = true := by
  unfold sound
  simp only [Bool.and_eq_true]
  constructor
  · rintro ⟨h1, h2, h3⟩
    have hf := fits_iff.1 h1
    rw [all2_iff zRow] at h2 h3
    refine ⟨h1, fun j hj => ?_, fun j hj hl => ?_⟩
    · have := h2.2 j (by rw [List.length_take]; omega)
      rw [getD_of _ (by rw [List.length_take]; omega), getD_of _ (by rw [List.length_take]; omega), List.getElem_take, List.getElem_take] at this
      rw [getD_of _ (by omega), getD_of _ (by omega)]
      exact this
    · have := h3.2 (j - p.2.1.toNat) (by rw [List.length_drop]; omega)
      rw [getD_of _ (by rw [List.length_drop]; omega), getD_of _ (by rw [List.length_drop]; omega), List.getElem_drop, List.getElem_drop] at this
      rw [getD_of _ (by omega), getD_of _ (by omega)]
      have e1 : p.2.1.toNat + (j - p.2.1.toNat) = j := by omega
      have e2 : p.2.2.2.1.toNat + (j - p.2.1.toNat) = ((j : Int) - p.2.1 + p.2.2.2.1).toNat := by omega
      simp only [e1, e2] at this
      exact this
  · rintro ⟨h1, h2, h3⟩
    have hf := fits_iff.1 h1
    refine ⟨h1, (all2_iff zRow).2 ⟨by rw [List.length_take, List.length_take]; omega, fun k hk => ?_⟩, (all2_iff zRow).2 ⟨by rw [List.length_drop, List.length_drop]; omega, fun k hk => ?_⟩⟩
    · rw [List.length_take] at hk
      rw [getD_of _ (by rw [List.length_take]; omega), getD_of _ (by rw [List.length_take]; omega), List.getElem_take, List.getElem_take]
      have := h2 k (by omega)
      rw [getD_of _ (by omega), getD_of _ (by omega)] at this
      exact this
    · rw [List.length_drop] at hk
      rw [getD_of _ (by rw [List.length_drop]; omega), getD_of _ (by rw [List.length_drop]; omega), List.getElem_drop, List.getElem_drop]
      have := h3 (p.2.1.toNat + k) (by omega) (by omega)
      rw [getD_of _ (by omega), getD_of _ (by omega)] at this
      have e2 : (((p.2.1.toNat + k : Nat) : Int) - p.2.1 + p.2.2.2.1).toNat = p.2.2.2.1.toNat + k := by omega
      simp only [e2] at this
      exact this
theorem p16 : vc16 := by
  unfold vc16
  simp only [eq_self, true_and, and_true, decide_eq_true_eq, decide_eq_false_iff_not, beq_iff_eq, beq_eq_false_iff_ne, bne_iff_ne, bne_eq_false_iff_eq, Bool.not_eq_true', Bool.not_eq_false', ne_eq, imp_true_iff, implies_true]
  rintro ⟨a, b, p, ⟨⟩⟩
  simp only
  rintro ⟨la, lb⟩
  have na := la.1
  have nb := lb.1
  rw [maxLen_eq] at na nb
  rw [d24]
  have no : ¬ (sound a b p = true) → false = sound a b p := eq_false_of
  rw [sound_iff] at no
  refine ⟨⟨by omega, by omega⟩, fun h => no (fun g => by rw [h] at g; cases g.1), fun h => ?_⟩
  have hf := fits_iff.1 h
  refine ⟨fun z => ∃ k : Nat, (k : Int) ≤ p.1 ∧ z.1 = (k : Int) ∧ ∀ j, j < k → same (a.getD j zRow) (b.getD j zRow) = true, fun z => a.length - z.1.toNat, ⟨0, by omega, rfl, fun j hj => by omega⟩, ?_⟩
  rintro i ⟨k, hk, hi, hs⟩
  simp only at hi
  subst hi
  refine ⟨fun h2 => ?_, fun h2 => ?_⟩
  · have hl : k < a.length := by omega
    have hlb : k < b.length := by omega
    have hw : IntKind.i64.wrap ((k : Int) + 1) = ((k + 1 : Nat) : Int) := wrap_succ (by omega)
    rw [toNat_cast, hw]
    have ma : a.getD k zRow ∈ a := by rw [getD_of _ hl]; exact List.getElem_mem _
    have mb : b.getD k zRow ∈ b := by rw [getD_of _ hlb]; exact List.getElem_mem _
    refine ⟨⟨by omega, by omega⟩, ⟨by omega, by omega⟩, ⟨la.2 _ ma, lb.2 _ mb⟩, fun g => no (fun h => by have := h.2.1 k h2; rw [g] at this; cases this), fun g => ⟨⟨k + 1, by omega, rfl, all2_so_far hs g⟩, ?_⟩⟩
    show a.length - (((k + 1 : Nat) : Int)).toNat < a.length - (k : Int).toNat
    rw [toNat_cast, toNat_cast]; omega
  · refine ⟨fun z => ∃ q : Nat, p.2.1 ≤ (q : Int) ∧ q ≤ a.length ∧ z.1 = (q : Int) ∧ ∀ j : Nat, p.2.1 ≤ (j : Int) → j < q → same (a.getD j zRow) (b.getD ((j : Int) - p.2.1 + p.2.2.2.1).toNat zRow) = true,
      fun z => a.length - z.1.toNat, ⟨p.2.1.toNat, by omega, by omega, by simp only; omega, fun j hj hj2 => by omega⟩, ?_⟩
    rintro i ⟨q, hq0, hq1, hi, hs2⟩
    simp only at hi
    subst hi
    refine ⟨fun h3 => ?_, fun h3 => ?_⟩
    · have hl : q < a.length := by omega
      have hw : IntKind.i64.wrap ((q : Int) + 1) = ((q + 1 : Nat) : Int) := wrap_succ (by omega)
      have hw2 : IntKind.i64.wrap (IntKind.i64.wrap ((q : Int) - p.2.1) + p.2.2.2.1) = (q : Int) - p.2.1 + p.2.2.2.1 := by simp only [wrap_eq]; omega
      rw [toNat_cast, hw, hw2]
      have ma : a.getD q zRow ∈ a := by rw [getD_of _ hl]; exact List.getElem_mem _
      have mb : b.getD ((q : Int) - p.2.1 + p.2.2.2.1).toNat zRow ∈ b := by rw [getD_of _ (by omega)]; exact List.getElem_mem _
      refine ⟨⟨by omega, h3⟩, ⟨by omega, by omega⟩, ⟨la.2 _ ma, lb.2 _ mb⟩, fun g => no (fun h => by have := h.2.2 q hq0 hl; rw [g] at this; cases this), fun g => ⟨⟨q + 1, by omega, by omega, rfl, fun j hj hj2 => ?_⟩, ?_⟩⟩
      · by_cases e : j = q
        · subst e; exact g
        · exact hs2 j hj (by omega)
      · show a.length - (((q + 1 : Nat) : Int)).toNat < a.length - (q : Int).toNat
        rw [toNat_cast, toNat_cast]; omega
    · exact (sound_iff.2 ⟨h, fun j hj => hs j (by omega), fun j hj hl => hs2 j hj (by omega)⟩).symm
end Go.Fr.C25
