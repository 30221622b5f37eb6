/-
  Chapter 40: proofs of the conditions: sets of marks. Conditions: none.
-/
import Derived.Test.YtpkdccmpadkmjaaC40P
import Derived.Test.YtpkdccmpadkmjaaC40N
namespace Go.Fr.C40
open Go Go.Fr Go.Proofs

def zM : Mark := (0, 0, 0, 0, ())
theorem d60 : Ty.dflt t60 = zM := rfl
theorem d64 : Ty.dflt t64 = zM := rfl
theorem beqM (a b : Mark) : Ty.beq t64 a b = true ↔ a = b := by
  obtain ⟨a1, a2, a3, a4, ⟨⟩⟩ := a
  obtain ⟨b1, b2, b3, b4, ⟨⟩⟩ := b
  show (a1 == b1 && (a2 == b2 && (a3 == b3 && (a4 == b4 && true)))) = true ↔ _
  simp
theorem p24 : vc24 := by
  unfold vc24
  try simp only [eq_self, true_and, and_true, decide_eq_true_eq, decide_eq_false_iff_not, beq_iff_eq, beq_eq_false_iff_ne, bne_iff_ne, bne_eq_false_iff_eq, Bool.not_eq_true', Bool.not_eq_false', ne_eq, imp_true_iff, implies_true]
  rintro ⟨l, ⟨⟩⟩
  simp only [maxLen_eq]
  intro h c hc
  refine ⟨fun h1 => ?_, fun h1 => ⟨by omega, by omega, by simp⟩⟩
  exact (List.eq_nil_of_length_eq_zero (hc h1)).symm
theorem p23 : vc23 := by
  unfold vc23
  try simp only [eq_self, true_and, and_true, decide_eq_true_eq, decide_eq_false_iff_not, beq_iff_eq, beq_eq_false_iff_ne, bne_iff_ne, bne_eq_false_iff_eq, Bool.not_eq_true', Bool.not_eq_false', ne_eq, imp_true_iff, implies_true]
  rintro ⟨s, ⟨⟩⟩
  simp only
  intro h
  cases s with
  | none => exact ⟨fun _ => rfl, fun h => by cases h⟩
  | some s => exact ⟨fun h => (by cases h), fun _ => ⟨rfl, h, rfl⟩⟩
theorem pO23 : vcO23 := by
  unfold vcO23
  try simp only [eq_self, true_and, and_true, decide_eq_true_eq, decide_eq_false_iff_not, beq_iff_eq, beq_eq_false_iff_ne, bne_iff_ne, bne_eq_false_iff_eq, Bool.not_eq_true', Bool.not_eq_false', ne_eq, imp_true_iff, implies_true]
  rintro ⟨s, ⟨⟩⟩
  simp only [maxLen_eq]
  intro h
  cases s with
  | none => exact ⟨fun _ => rfl, fun h => by cases h⟩
  | some s =>
    refine ⟨fun h => (by cases h), fun _ => ⟨rfl, fun c hc => ⟨fun h1 => ?_, fun h1 => ?_⟩⟩⟩
    · exact (List.eq_nil_of_length_eq_zero (hc h1)).symm
    · have h2 : (((optL (some s)).getD 0 (Ty.dflt t63)).2.1).length ≤ 10000 := h
      refine ⟨by omega, by omega, ?_⟩
      simp [optL, allM]
theorem all_no {α : Type} {f : α → Bool} {l : List α} {k : Nat} {d : α} (h : k < l.length) (hf : f (l.getD k d) = false) : l.all f = false := by
  rw [getD_of d h] at hf
  rw [List.all_eq_false]
  exact ⟨_, List.getElem_mem h, by rw [hf]; decide⟩
theorem all_so_far {α : Type} {f : α → Bool} {l : List α} {k : Nat} {d : α} (h : k < l.length) (hs : (l.take k).all f = true) (hf : f (l.getD k d) = true) : (l.take (k + 1)).all f = true := by
  rw [getD_of d h] at hf
  rw [all_take_succ h, hs, hf]
  rfl
theorem okMark_iff {n : Int} {m : Mark} : okMark n m = true ↔ 0 ≤ m.1 ∧ m.1 < m.2.1 ∧ m.2.1 ≤ n ∧ 1 ≤ m.2.2.1 := by simp [okMark]
theorem p9 : vc9 := by
  unfold vc9
  simp only [eq_self, true_and, and_true, decide_eq_true_eq, decide_eq_false_iff_not, beq_iff_eq, beq_eq_false_iff_ne, bne_iff_ne, bne_eq_false_iff_eq, Bool.not_eq_true', Bool.not_eq_false', ne_eq, imp_true_iff, implies_true]
  rintro ⟨n, l, ⟨⟩⟩
  simp only
  intro hl
  rw [maxLen_eq] at hl
  rw [d60]
  refine ⟨fun h => ?_, fun h0 => ⟨fun h => ?_, fun h1 => ⟨fun h => ?_, fun h2 => ?_⟩⟩⟩
  · rw [newM, if_pos (by omega)]
  · rw [newM, if_pos (by omega)]
  · rw [newM, if_neg (by omega), if_pos h]
  have base : newM n l = if l.all (okMark n) then (some (n, l, ()), 0, ()) else (none, 1, ()) := by rw [newM, if_neg (by omega), if_neg h2]
  refine ⟨fun z => ∃ k : Nat, k ≤ l.length ∧ z.1 = (k : Int) ∧ (l.take k).all (okMark n) = true, fun z => l.length - z.1.toNat, ⟨0, Nat.zero_le _, rfl, rfl⟩, ?_⟩
  rintro i ⟨k, hk, hi, hs⟩
  simp only at hi
  subst hi
  refine ⟨fun h => ?_, fun h => ⟨by omega, ?_⟩⟩
  · have hlt : k < l.length := by omega
    have hw : IntKind.i64.wrap ((k : Int) + 1) = ((k + 1 : Nat) : Int) := wrap_succ (by omega)
    rw [toNat_cast, hw]
    have no : ¬ okMark n (l.getD k zM) = true → (none, (1 : Int), ()) = newM n l := fun hh => by
      rw [base, all_no hlt (by simpa using hh)]
      rfl
    have yes : okMark n (l.getD k zM) = true → (l.take (k + 1)).all (okMark n) = true := all_so_far hlt hs
    rw [okMark_iff] at no yes
    refine ⟨⟨by omega, h⟩, fun g => no (by omega), fun g1 => ⟨fun g => no (by omega), fun g2 => ⟨fun g => no (by omega), fun g3 => ⟨fun g => no (by omega), fun g4 => ⟨⟨k + 1, hlt, rfl, yes (by omega)⟩, ?_⟩⟩⟩⟩⟩
    show l.length - (((k + 1 : Nat) : Int)).toNat < l.length - (k : Int).toNat
    rw [toNat_cast, toNat_cast]; omega
  · have : k = l.length := by omega
    subst this
    rw [List.take_length] at hs
    rw [base, hs]
    rfl
theorem p10 : vc10 := by
  unfold vc10
  simp only [eq_self, true_and, and_true, decide_eq_true_eq, decide_eq_false_iff_not, beq_iff_eq, beq_eq_false_iff_ne, bne_iff_ne, bne_eq_false_iff_eq, Bool.not_eq_true', Bool.not_eq_false', ne_eq, imp_true_iff, implies_true]
  rintro ⟨n, l, ⟨⟩⟩
  simp only
  intro hl
  rw [maxLen_eq] at hl
  rw [d64]
  refine ⟨fun h => ?_, fun h0 => ⟨fun h => ?_, fun h1 => ⟨fun h => ?_, fun h2 => ?_⟩⟩⟩
  · rw [newW, if_pos (by omega)]
  · rw [newW, if_pos (by omega)]
  · rw [newW, if_neg (by omega), if_pos h]
  have base : newW n l = if l.all (okMark n) then (n, l, 0, ()) else (0, [], 1, ()) := by rw [newW, if_neg (by omega), if_neg h2]
  refine ⟨fun z => ∃ k : Nat, k ≤ l.length ∧ z.1 = (k : Int) ∧ (l.take k).all (okMark n) = true, fun z => l.length - z.1.toNat, ⟨0, Nat.zero_le _, rfl, rfl⟩, ?_⟩
  rintro i a1 a2 a3 ⟨k, hk, hi, hs⟩
  simp only at hi
  subst hi
  refine ⟨fun h => ?_, fun h => ?_⟩
  · have hlt : k < l.length := by omega
    have hw : IntKind.i64.wrap ((k : Int) + 1) = ((k + 1 : Nat) : Int) := wrap_succ (by omega)
    rw [toNat_cast, hw]
    have no : ¬ okMark n (l.getD k zM) = true → ((0 : Int), [], (1 : Int), ()) = newW n l := fun hh => by
      rw [base, all_no hlt (by simpa using hh)]
      rfl
    have yes : okMark n (l.getD k zM) = true → (l.take (k + 1)).all (okMark n) = true := all_so_far hlt hs
    rw [okMark_iff] at no yes
    refine ⟨⟨by omega, h⟩, fun g => no (by omega), fun g1 => ⟨fun g => no (by omega), fun g2 => ⟨fun g => no (by omega), fun g3 => ⟨fun g => no (by omega), fun g4 => ⟨⟨k + 1, hlt, rfl, yes (by omega)⟩, ?_⟩⟩⟩⟩⟩
    show l.length - (((k + 1 : Nat) : Int)).toNat < l.length - (k : Int).toNat
    rw [toNat_cast, toNat_cast]; omega
  · have : k = l.length := by omega
    subst this
    rw [List.take_length] at hs
    rw [base, hs]
    rfl
theorem take_snoc {α : Type} {l : List α} {k : Nat} (d : α) (h : k < l.length) : l.take k ++ [l.getD k d] = l.take (k + 1) := by
  rw [getD_of d h, List.take_succ_eq_append_getElem h]
theorem p11 : vc11 := by
  unfold vc11
  simp only [eq_self, true_and, and_true, decide_eq_true_eq, decide_eq_false_iff_not, beq_iff_eq, beq_eq_false_iff_ne, bne_iff_ne, bne_eq_false_iff_eq, Bool.not_eq_true', Bool.not_eq_false', ne_eq, imp_true_iff, implies_true]
  rintro ⟨l, ⟨⟩⟩
  simp only
  intro hl
  rw [d60, maxLen_eq]
  refine ⟨fun z => ∃ k : Nat, k ≤ l.length ∧ z.2.1 = (k : Int) ∧ z.1 = l.take k, fun z => l.length - z.2.1.toNat, ⟨0, Nat.zero_le _, rfl, rfl⟩, ?_⟩
  rintro a i ⟨k, hk, hi, hs⟩
  simp only at hi hs
  subst hi hs
  refine ⟨fun h => ?_, fun h => ?_⟩
  · have hlt : k < l.length := by omega
    have hw : IntKind.i64.wrap ((k : Int) + 1) = ((k + 1 : Nat) : Int) := wrap_succ (by omega)
    rw [toNat_cast, hw]
    simp only [List.length_take, List.length_singleton]
    refine ⟨⟨by omega, h⟩, by omega, by omega, ⟨k + 1, hlt, rfl, take_snoc zM hlt⟩, ?_⟩
    omega
  · have : k = l.length := by omega
    subst this
    rw [List.take_length]
theorem eq_of_get {α : Type} {a b : List α} (d : α) (hl : a.length = b.length) (h : ∀ j, j < a.length → a.getD j d = b.getD j d) : a = b := by
  apply List.ext_getElem hl
  intro i h1 h2
  have := h i h1
  rw [getD_of d h1, getD_of d h2] at this
  exact this
theorem p16 : vc16 := by
  unfold vc16
  simp only [eq_self, true_and, and_true, decide_eq_true_eq, decide_eq_false_iff_not, beq_iff_eq, beq_eq_false_iff_ne, bne_iff_ne, bne_eq_false_iff_eq, Bool.not_eq_true', Bool.not_eq_false', ne_eq, imp_true_iff, implies_true]
  rintro ⟨a, b, ⟨⟩⟩
  simp only
  rintro ⟨la, lb⟩
  rw [maxLen_eq] at la lb
  have d3 : Ty.dflt t3 = (0 : Int) := rfl
  rw [d3]
  have no : ¬ (a = b) → false = decide ((a : List Int) = b) := fun h => by simp [h]
  refine ⟨fun z => ∃ k : Nat, k ≤ a.length ∧ z.1 = (k : Int) ∧ ∀ j, j < k → a.getD j 0 = b.getD j 0, fun z => a.length - z.1.toNat, ⟨0, Nat.zero_le _, rfl, fun j hj => by omega⟩, ?_⟩
  rintro i ⟨k, hk, hi, hs⟩
  simp only at hi
  subst hi
  refine ⟨fun h => ?_, fun h => ?_⟩
  · have hl : k < a.length := by omega
    have hw : IntKind.i64.wrap ((k : Int) + 1) = ((k + 1 : Nat) : Int) := wrap_succ (by omega)
    rw [toNat_cast, hw]
    refine ⟨fun g => no (fun h => by rw [h] at hl; omega), fun g => ⟨⟨by omega, h⟩, ⟨by omega, by omega⟩, fun g => no (fun h => g (by rw [h])), fun g => ⟨⟨k + 1, hl, rfl, fun j hj => ?_⟩, ?_⟩⟩⟩
    · by_cases e : j = k
      · subst e; exact g
      · exact hs j (by omega)
    · show a.length - (((k + 1 : Nat) : Int)).toNat < a.length - (k : Int).toNat
      rw [toNat_cast, toNat_cast]; omega
  · have : k = a.length := by omega
    subst this
    by_cases hl : a.length = b.length
    · have := eq_of_get 0 hl hs
      subst this
      simp
    · have h1 : ¬ a = b := fun h => hl (by rw [h])
      have h2 : ¬ ((a.length : Int) = (b.length : Int)) := by omega
      simp [h1, h2]
end Go.Fr.C40
