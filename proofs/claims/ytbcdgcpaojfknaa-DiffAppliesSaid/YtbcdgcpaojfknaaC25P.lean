/-
  Chapter 25: proofs of the conditions, first part. Conditions: none.
-/
import Derived.Test.YtbcdgcpaojfknaaC25V
namespace Go.Fr.C25
open Go Go.Fr Go.Proofs

def zCell : Cell := (0, 0, 0, 0, ())
def zRow : Row := ([], 0, 0, 0, false, false, 0, ())
theorem d41 : Ty.dflt t41 = zCell := rfl
theorem d24 : Ty.dflt t24 = zRow := rfl
theorem beqB (a b : Bool) : Ty.beq t4 a b = (a == b) := rfl
theorem alike_iff {a b : Cell} : alike a b = true ↔ a.1 = b.1 ∧ a.2.1 = b.2.1 ∧ a.2.2.1 = b.2.2.1 := by simp [alike]
theorem same_iff {a b : Row} : same a b = true ↔ a.2.2.2.2.1 = b.2.2.2.2.1 ∧ a.2.2.2.2.2.1 = b.2.2.2.2.2.1 ∧ a.2.2.2.2.2.2.1 = b.2.2.2.2.2.2.1 ∧ a.1.length = b.1.length ∧ ∀ k, k < a.1.length → alike (a.1.getD k zCell) (b.1.getD k zCell) = true := by
  simp only [same, Bool.and_eq_true, beq_iff_eq, decide_eq_true_eq, all2_iff zCell]
theorem fits_iff {p : RP} {n m : Int} : fits p n m = true ↔ 0 ≤ p.1 ∧ p.1 ≤ p.2.1 ∧ p.2.1 ≤ n ∧ p.2.2.1 = p.1 ∧ p.2.2.1 ≤ p.2.2.2.1 ∧ p.2.2.2.1 ≤ m ∧ n - p.2.1 = m - p.2.2.2.1 := by simp [fits]
theorem p23 : vc23 := by
  unfold vc23
  rintro ⟨⟨a1, a2, a3, a4, ⟨⟩⟩, ⟨b1, b2, b3, b4, ⟨⟩⟩, ⟨⟩⟩ _
  show (a1 == b1 && (a2 == b2 && (a3 == b3 && ((0 : Int) == 0 && true)))) = _
  rw [Bool.eq_iff_iff, alike_iff]
  simp
theorem p10 : vc10 := by
  unfold vc10
  simp only [beqB]
  simp only [eq_self, true_and, and_true, decide_eq_true_eq, decide_eq_false_iff_not, beq_iff_eq, beq_eq_false_iff_ne, bne_iff_ne, bne_eq_false_iff_eq, Bool.not_eq_true', Bool.not_eq_false', ne_eq, imp_true_iff, implies_true]
  rintro ⟨a, b, ⟨⟩⟩
  simp only
  rintro ⟨la, lb⟩
  rw [maxLen_eq] at la lb
  rw [d41]
  have no : ¬ (same a b = true) → false = same a b := eq_false_of
  rw [same_iff] at no
  refine ⟨fun h1 => ⟨fun h2 => ⟨fun h3 => ⟨fun h4 => no (by omega), fun h4 => ?_⟩, fun h3 => no (fun h => h3 h.2.2.1)⟩, fun h2 => no (fun h => h2 h.2.1)⟩, fun h1 => no (fun h => h1 h.1)⟩
  refine ⟨fun z => ∃ k : Nat, k ≤ a.1.length ∧ z.1 = (k : Int) ∧ ∀ j, j < k → alike (a.1.getD j zCell) (b.1.getD j zCell) = true, fun z => a.1.length - z.1.toNat, ⟨0, Nat.zero_le _, rfl, fun j hj => by omega⟩, ?_⟩
  rintro i ⟨k, hk, hi, hs⟩
  simp only at hi
  subst hi
  refine ⟨fun h => ?_, fun h => ?_⟩
  · have hl : k < a.1.length := by omega
    have hw : IntKind.i64.wrap ((k : Int) + 1) = ((k + 1 : Nat) : Int) := wrap_succ (by omega)
    rw [toNat_cast, hw]
    refine ⟨⟨by omega, h⟩, ⟨by omega, by omega⟩, fun g => no (fun h => by have := h.2.2.2.2 k hl; rw [g] at this; cases this), fun g => ⟨⟨k + 1, hl, rfl, all2_so_far hs g⟩, ?_⟩⟩
    show a.1.length - (((k + 1 : Nat) : Int)).toNat < a.1.length - (k : Int).toNat
    rw [toNat_cast, toNat_cast]; omega
  · have : k = a.1.length := by omega
    subst this
    exact (same_iff.2 ⟨h1, h2, h3, by omega, hs⟩).symm
theorem p11 : vc11 := by
  unfold vc11
  simp only [beqB]
  simp only [eq_self, true_and, and_true, decide_eq_true_eq, decide_eq_false_iff_not, beq_iff_eq, beq_eq_false_iff_ne, bne_iff_ne, bne_eq_false_iff_eq, Bool.not_eq_true', Bool.not_eq_false', ne_eq, imp_true_iff, implies_true]
  rintro ⟨a, b, ⟨⟩⟩
  simp only
  rintro ⟨la, lb⟩
  rw [maxLen_eq] at la lb
  rw [d41]
  have no : ¬ (same a b = true) → false = same a b := eq_false_of
  rw [same_iff] at no
  refine ⟨fun h1 => no (by omega), fun h1 => ⟨fun h2 => no (fun h => h2 h.1), fun h2 => ⟨fun h3 => no (fun h => h3 h.2.1), fun h3 => ⟨fun h4 => no (fun h => h4 h.2.2.1), fun h4 => ?_⟩⟩⟩⟩
  refine ⟨fun z => ∃ k : Nat, k ≤ a.1.length ∧ z.1 = (k : Int) ∧ ∀ j, j < k → alike (a.1.getD j zCell) (b.1.getD j zCell) = true, fun z => a.1.length - z.1.toNat, ⟨0, Nat.zero_le _, rfl, fun j hj => by omega⟩, ?_⟩
  rintro i ⟨k, hk, hi, hs⟩
  simp only at hi
  subst hi
  refine ⟨fun h => ?_, fun h => ?_⟩
  · have hl : k < a.1.length := by omega
    have hw : IntKind.i64.wrap ((k : Int) + 1) = ((k + 1 : Nat) : Int) := wrap_succ (by omega)
    rw [toNat_cast, hw]
    have key : same a b = true → alike (a.1.getD k zCell) (b.1.getD k zCell) = true := fun h => (same_iff.1 h).2.2.2.2 k hl
    rw [alike_iff, same_iff] at key
    refine ⟨⟨by omega, h⟩, ⟨by omega, by omega⟩, fun g => no (fun h => g (key h).1), fun g => ⟨fun g2 => no (fun h => g2 (key h).2.1), fun g2 => ⟨fun g3 => no (fun h => g3 (key h).2.2), fun g3 => ⟨⟨k + 1, hl, rfl, all2_so_far hs (alike_iff.2 ⟨g, g2, g3⟩)⟩, ?_⟩⟩⟩⟩
    show a.1.length - (((k + 1 : Nat) : Int)).toNat < a.1.length - (k : Int).toNat
    rw [toNat_cast, toNat_cast]; omega
  · have : k = a.1.length := by omega
    subst this
    exact (same_iff.2 ⟨h2, h3, h4, by omega, hs⟩).symm
theorem p12 : vc12 := by
  unfold vc12
  simp only [eq_self, true_and, and_true, decide_eq_true_eq, decide_eq_false_iff_not, beq_iff_eq, beq_eq_false_iff_ne, bne_iff_ne, bne_eq_false_iff_eq, Bool.not_eq_true', Bool.not_eq_false', ne_eq, imp_true_iff, implies_true]
  rintro ⟨p, n, m, ⟨⟩⟩
  simp only
  rintro ⟨hn, hm⟩
  have no : ¬ (fits p n m = true) → false = fits p n m := eq_false_of
  rw [fits_iff] at no
  (repeat' (first | apply And.intro | intro _))
  all_goals first
    | (apply no; omega)
    | (rw [Bool.eq_iff_iff, fits_iff, beq_iff_eq]; simp only [wrap_eq]; omega)
theorem p13 : vc13 := by
  unfold vc13
  simp only [eq_self, true_and, and_true, decide_eq_true_eq, decide_eq_false_iff_not, beq_iff_eq, beq_eq_false_iff_ne, bne_iff_ne, bne_eq_false_iff_eq, Bool.not_eq_true', Bool.not_eq_false', ne_eq, imp_true_iff, implies_true]
  rintro ⟨p, n, m, ⟨⟩⟩
  simp only
  rintro ⟨hn, hm⟩
  have no : ¬ (fits p n m = true) → false = fits p n m := eq_false_of
  rw [fits_iff] at no
  (repeat' (first | apply And.intro | intro _))
  all_goals first
    | (apply no; omega)
    | (rw [Bool.eq_iff_iff, fits_iff, beq_iff_eq]; simp only [wrap_eq]; omega)
theorem p14 : vc14 := by
  unfold vc14
  simp only [eq_self, true_and, and_true, decide_eq_true_eq, decide_eq_false_iff_not, beq_iff_eq, beq_eq_false_iff_ne, bne_iff_ne, bne_eq_false_iff_eq, Bool.not_eq_true', Bool.not_eq_false', ne_eq, imp_true_iff, implies_true]
  rintro ⟨l, ⟨⟩⟩
  simp only
  intro hl
  rw [maxLen_eq] at hl
  rw [d24]
  refine ⟨fun z => ∃ k : Nat, k ≤ l.length ∧ z.2.1 = (k : Int) ∧ long l = longFrom z.1 (l.drop k), fun z => l.length - z.2.1.toNat, ⟨0, Nat.zero_le _, rfl, rfl⟩, ?_⟩
  rintro n i ⟨k, hk, hi, hs⟩
  simp only at hi hs
  subst hi
  refine ⟨fun h => ?_, fun h => ?_⟩
  · have hlt : k < l.length := by omega
    have hw : IntKind.i64.wrap ((k : Int) + 1) = ((k + 1 : Nat) : Int) := wrap_succ (by omega)
    rw [toNat_cast, hw]
    rw [drop_cons zRow hlt, longFrom] at hs
    refine ⟨⟨by omega, h⟩, fun g => ?_, fun g => ⟨⟨k + 1, hlt, rfl, ?_⟩, ?_⟩⟩
    · rw [if_pos g] at hs; exact hs.symm
    · rw [if_neg g] at hs; exact hs
    show l.length - (((k + 1 : Nat) : Int)).toNat < l.length - (k : Int).toNat
    rw [toNat_cast, toNat_cast]; omega
  · have : k = l.length := by omega
    subst this
    rw [hs, List.drop_length]
    rfl
theorem p21 : vc21 := fun _ _ => rfl
theorem p9 : vc9 := by
  unfold vc9
  intro _ _
  have e1 : least [oneRow 97, oneRow 98, oneRow 99] [oneRow 97, oneRow 120, oneRow 121, oneRow 99] = (1, 2, 1, 3, ()) := by decide
  have e2 : same (oneRow 97) (oneRow 97) = true := by decide
  have e3 : fits ((1, 2, 1, 3, ()) : RP) 3 4 = true := by decide
  have e4 : (oneRow 97).1.length ≤ maxLen := by decide
  have e5 : rows [oneRow 97, oneRow 98, oneRow 99] := by
    refine ⟨by decide, fun r hr => ?_⟩
    simp only [List.mem_cons, List.not_mem_nil, or_false] at hr
    rcases hr with rfl | rfl | rfl <;> exact e4
  have e6 : rows [oneRow 97, oneRow 120, oneRow 121, oneRow 99] := by
    refine ⟨by decide, fun r hr => ?_⟩
    simp only [List.mem_cons, List.not_mem_nil, or_false] at hr
    rcases hr with rfl | rfl | rfl | rfl <;> exact e4
  have e7 : Ty.beq t28 ((1, 2, 1, 3, ()) : RP) ((1, 2, 1, 3, ()) : RP) = true := by decide
  rw [e1, e2, e3, e7]
  simp [e4, e5, e6]
theorem same_self (a : Row) : same a a = true := same_iff.2 ⟨rfl, rfl, rfl, rfl, fun _ _ => alike_iff.2 ⟨rfl, rfl, rfl⟩⟩
theorem same_comm (a b : Row) : same b a = same a b := by
  have key : ∀ a b : Row, same a b = true → same b a = true := fun a b h => by
    obtain ⟨h1, h2, h3, h4, h5⟩ := same_iff.1 h
    refine same_iff.2 ⟨h1.symm, h2.symm, h3.symm, h4.symm, fun k hk => ?_⟩
    have := alike_iff.1 (h5 k (by omega))
    exact alike_iff.2 ⟨this.1.symm, this.2.1.symm, this.2.2.symm⟩
  rw [Bool.eq_iff_iff]
  exact ⟨key b a, key a b⟩
theorem p3 : vc3 := by
  unfold vc3
  simp only [beqB]
  rintro ⟨a, b, ⟨⟩⟩
  simp only
  rintro ⟨la, lb⟩
  simp [same_self, same_comm b a, la, lb]
theorem p4 : vc4 := by
  unfold vc4
  simp only [beqB]
  rintro ⟨p, n, m, ⟨⟩⟩
  simp only
  rintro ⟨hn, hm⟩
  simp [hn, hm]
end Go.Fr.C25
