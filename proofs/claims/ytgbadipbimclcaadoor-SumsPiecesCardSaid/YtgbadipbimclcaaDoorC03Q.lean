/-
  Chapter 03: proofs of the conditions, second part. Conditions: none.
-/
import Derived.Test.YtgbadipbimclcaaDoorC03P
namespace Go.Fr.C03
open Go Go.Fr Go.Proofs

theorem p12 : vc12 := by
  unfold vc12
  simp only [eq_self, true_and, and_true, decide_eq_true_eq, decide_eq_false_iff_not, beq_iff_eq, beq_eq_false_iff_ne, bne_iff_ne, bne_eq_false_iff_eq, Bool.not_eq_true', Bool.not_eq_false', ne_eq, imp_true_iff, implies_true]
  rintro ⟨⟨b1, r1, k1, f1, l1, lo1, ro1, ⟨⟩⟩, ⟨b2, r2, k2, f2, l2, lo2, ro2, ⟨⟩⟩, ⟨⟩⟩
  simp only [okSum]
  rintro ⟨⟨a1, a2, a3, a4, a5, a6, a7, a8, a9, a10, a11, a12, a13, a14⟩, c1, c2, c3, c4, c5, c6, c7, c8, c9, c10, c11, c12, c13, c14⟩
  have w : ∀ x y : Int, 0 ≤ x → 0 ≤ y → x ≤ 1000000000000 → y ≤ 1000000000000 → IntKind.i64.wrap (x + y) = x + y := fun x y _ _ _ _ => by rw [wrap_eq]; omega
  rw [w b1 b2 a1 c1 a2 c2, w r1 r2 a3 c3 a4 c4, w k1 k2 a5 c5 a6 c6, w f1 f2 a7 c7 a8 c8, w l1 f2 a9 c7 a10 c8, w k1 ro2 a5 c13 a6 c14]
  simp only [w l2 l1 c9 a9 c10 a10, addS]
  (repeat' (first | apply And.intro | intro _))
  all_goals (repeat' split)
  all_goals (try simp only [Prod.mk.injEq, and_true])
  all_goals (try omega)
  all_goals (simp_all; try omega)
theorem lines_inv (l : List Int) : ∀ k, k ≤ l.length → 1 ≤ (linesOf (l.take k)).length ∧ (linesOf (l.take k)).length ≤ k + 1 ∧ ∀ x ∈ linesOf (l.take k), 0 ≤ x ∧ x ≤ (k : Int)
  | 0, _ => ⟨Nat.le_refl _, Nat.le_refl _, fun x hx => by
      have : x = 0 := by simpa [linesOf] using hx
      omega⟩
  | k + 1, hk => by
    obtain ⟨i1, i2, i3⟩ := lines_inv l k (by omega)
    have e : linesOf (l.take (k + 1)) = lineStep (linesOf (l.take k)) (l.getD k 0) := by
      unfold linesOf
      rw [foldl_take_succ (by omega), getD_of _ (by omega)]
    rw [e]
    unfold lineStep
    split
    · refine ⟨by simp, by simp; omega, fun x hx => ?_⟩
      rcases List.mem_append.1 hx with h | h
      · have := i3 x h; omega
      · have : x = 0 := by simpa using h
        omega
    · refine ⟨by simpa using i1, by simp; omega, fun x hx => ?_⟩
      rcases List.mem_or_eq_of_mem_set hx with h | h
      · have := i3 x h; omega
      · have hm : (linesOf (l.take k)).getD ((linesOf (l.take k)).length - 1) 0 ∈ linesOf (l.take k) := by
          rw [getD_of _ (by omega)]; exact List.getElem_mem _
        have := i3 _ hm
        omega
theorem p15 : vc15 := by
  unfold vc15
  simp only [eq_self, true_and, and_true, decide_eq_true_eq, decide_eq_false_iff_not, beq_iff_eq, beq_eq_false_iff_ne, bne_iff_ne, bne_eq_false_iff_eq, Bool.not_eq_true', Bool.not_eq_false', ne_eq, imp_true_iff, implies_true]
  rintro ⟨l, ⟨⟩⟩
  simp only
  intro hl
  have d3 : Ty.dflt t3 = (0 : Int) := rfl
  rw [d21, d3, maxLen_eq]
  refine ⟨fun z => ∃ k : Nat, k ≤ l.length ∧ z.2.1 = (k : Int) ∧ z.1 = linesOf (l.take k), fun z => l.length - z.2.1.toNat, ⟨0, Nat.zero_le _, rfl, rfl⟩, ?_⟩
  rintro a i ⟨k, hk, hi, ha⟩
  simp only at hi ha
  subst hi
  refine ⟨fun h => ?_, fun h => ?_⟩
  · have hlt : k < l.length := by omega
    have hw : IntKind.i64.wrap ((k : Int) + 1) = ((k + 1 : Nat) : Int) := wrap_succ (by omega)
    obtain ⟨i1, i2, i3⟩ := lines_inv l k hk
    have e : linesOf (l.take (k + 1)) = lineStep a (l.getD k 0) := by
      rw [ha]
      unfold linesOf
      rw [foldl_take_succ hlt, getD_of _ hlt]
    rw [← ha] at i1 i2 i3
    have hm : a.getD (a.length - 1) 0 ∈ a := by rw [getD_of _ (by omega)]; exact List.getElem_mem _
    have hb := i3 _ hm
    have w5 : IntKind.i64.wrap ((a.length : Int) - 1) = ((a.length - 1 : Nat) : Int) := by rw [wrap_eq]; omega
    rw [toNat_cast, hw, w5, toNat_cast]
    have w6 : IntKind.i64.wrap (a.getD (a.length - 1) 0 + 1) = a.getD (a.length - 1) 0 + 1 := by rw [wrap_eq]; omega
    rw [w6, one_len]
    have hdec : l.length - (((k + 1 : Nat) : Int)).toNat < l.length - (k : Int).toNat := by rw [toNat_cast, toNat_cast]; omega
    refine ⟨by omega, fun g => ⟨by omega, by omega, ⟨k + 1, hlt, rfl, ?_⟩, hdec⟩, fun g => ⟨by omega, by omega, ⟨k + 1, hlt, rfl, ?_⟩, hdec⟩⟩
    · rw [e]; unfold lineStep; rw [if_pos g]
    · rw [e]; unfold lineStep; rw [if_neg g]
  · have : k = l.length := by omega
    subst this
    rw [ha, List.take_length]
theorem p7 : vc7 := by
  unfold vc7
  intro _ _
  exact ⟨by decide, by decide⟩
end Go.Fr.C03
