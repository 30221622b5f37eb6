/-
  Chapter 40: proofs of the conditions: the document's shift; the laws. Conditions: none.
-/
import Derived.Test.YtpkdccmpadkmjaaC40E
namespace Go.Fr.C40
open Go Go.Fr Go.Proofs

theorem wrap_mix (n D a b : Int) : IntKind.i64.wrap (n + IntKind.i64.wrap (D + IntKind.i64.wrap (IntKind.i64.wrap a - IntKind.i64.wrap b))) = IntKind.i64.wrap (IntKind.i64.wrap (IntKind.i64.wrap (n + D) + IntKind.i64.wrap a) - IntKind.i64.wrap b) := by
  simp only [wrap_eq]
  omega
theorem d83 : Ty.dflt t83 = zeroC := rfl
theorem end_take {p : List Chg} {k : Nat} (h : k < p.length) : endOf (p.take (k + 1)) = (p.getD k zeroC).1.2.1 := by
  unfold endOf
  rw [← take_snoc zeroC h, List.getLast?_concat]
theorem shift_take {p : List Chg} {l : List Mark} {k : Nat} (h : k < l.length) : shiftL p (l.take (k + 1)) = shiftL p (l.take k) ++ (if (sh p (l.getD k zM)).1 < (sh p (l.getD k zM)).2.1 then [sh p (l.getD k zM)] else []) := by
  rw [shiftL_eq, shiftL_eq, ← take_snoc zM h, List.map_append, List.filter_append]
  congr 1
  rw [List.map_singleton]
  generalize sh p (l.getD k zM) = m
  by_cases hc : m.1 < m.2.1
  · rw [if_pos hc]
    simp [hc]
  · rw [if_neg hc]
    simp [hc]
theorem shift_len (p : List Chg) (l : List Mark) : (shiftL p l).length ≤ l.length := by
  rw [shiftL_eq]
  exact Nat.le_trans (List.length_filter_le _ _) (by simp)
theorem p21 : vc21 := by
  unfold vc21
  simp only [eq_self, true_and, and_true, decide_eq_true_eq, decide_eq_false_iff_not, beq_iff_eq, beq_eq_false_iff_ne, bne_iff_ne, bne_eq_false_iff_eq, Bool.not_eq_true', Bool.not_eq_false', ne_eq, imp_true_iff, implies_true]
  rintro ⟨w, p, ⟨⟩⟩
  simp only
  rintro ⟨hl, hok, h0, h1, hp⟩
  replace h0 : (0 : Int) ≤ w.1 := h0
  replace h1 : w.1 ≤ (1099511627776 : Int) := h1
  replace hok : ∀ m ∈ w.2.1, okMark w.1 m = true := hok
  simp only [d83, d64]
  have hpm : p.length ≤ maxLen := by rw [maxLen_eq]; omega
  refine ⟨hpm, fun h => by rw [shiftW, if_pos h], fun hn => ?_⟩
  have r1 : (endOf p > w.1 ∨ w64 (w.1 + delta p) > 1099511627776) → ((0 : Int), [], (1 : Int), ()) = shiftW w p := fun h => by
    rw [shiftW, if_neg (by rw [hn]; decide), if_pos h]
  refine ⟨fun z => ∃ k : Nat, k ≤ p.length ∧ z.2.2.1 = (k : Int) ∧ z.1 = w64 (w.1 + delta (p.take k)) ∧ z.2.1 = endOf (p.take k), fun z => p.length - z.2.2.1.toNat, ⟨0, Nat.zero_le _, rfl, ?_, rfl⟩, ?_⟩
  · show w.1 = w64 (w.1 + 0)
    unfold w64
    rw [wrap_eq]
    omega
  rintro n last i ⟨k, hk, hi, hnn, hla⟩
  simp only at hi hnn hla
  subst hi hnn hla
  refine ⟨fun h => ?_, fun h => ?_⟩
  · have hlt : k < p.length := by omega
    have hw : IntKind.i64.wrap ((k : Int) + 1) = ((k + 1 : Nat) : Int) := wrap_succ (by omega)
    rw [toNat_cast, hw]
    refine ⟨⟨by omega, h⟩, ⟨k + 1, hlt, rfl, ?_, (end_take hlt).symm⟩, ?_⟩
    · rw [delta_take hlt]
      unfold w64 size w64
      exact (wrap_mix _ _ _ _).symm
    · show p.length - (((k + 1 : Nat) : Int)).toNat < p.length - (k : Int).toNat
      rw [toNat_cast, toNat_cast]; omega
  · have hke : k = p.length := by omega
    subst hke
    rw [List.take_length]
    refine ⟨fun g => r1 (.inl g), fun g1 => ⟨fun g => r1 (.inr g), fun g2 => ?_⟩⟩
    refine ⟨fun z => ∃ k : Nat, k ≤ w.2.1.length ∧ z.2.1 = (k : Int) ∧ z.1 = shiftL p (w.2.1.take k), fun z => w.2.1.length - z.2.1.toNat, ⟨0, Nat.zero_le _, rfl, rfl⟩, ?_⟩
    rintro out i ⟨q, hq, hi, hout⟩
    simp only at hi hout
    subst hi hout
    have hol : (shiftL p (w.2.1.take q)).length ≤ 200 := by
      have := shift_len p (w.2.1.take q)
      rw [List.length_take] at this
      omega
    refine ⟨fun h => ?_, fun h => ?_⟩
    · have hlt : q < w.2.1.length := by omega
      have hw : IntKind.i64.wrap ((q : Int) + 1) = ((q + 1 : Nat) : Int) := wrap_succ (by omega)
      have hst := shift_take (p := p) hlt
      have hm := okMark_iff.1 (hok _ (List.getElem_mem hlt))
      rw [← getD_of zM hlt] at hm
      rw [toNat_cast, hw, maxLen_eq]
      have hpm2 : p.length ≤ 9223372036854775807 := by omega
      generalize w.2.1.getD q zM = m at *
      have e : ((refMap m.1 1 p 0, refMap m.2.1 0 p 0, m.2.2) : Mark) = sh p m := by
        unfold sh
        rw [refMap_eq p zeroC true 0 hn, refMap_eq p zeroC true 0 hn]
      have e1 : refMap m.1 1 p 0 = (sh p m).1 := congrArg (fun z : Mark => z.1) e
      have e2 : refMap m.2.1 0 p 0 = (sh p m).2.1 := congrArg (fun z : Mark => z.2.1) e
      have hdec : w.2.1.length - (((q + 1 : Nat) : Int)).toNat < w.2.1.length - q := by rw [toNat_cast]; omega
      rw [e]
      simp only [e1, e2]
      have a0 : (0 : Ty.den t3) ≤ m.1 := show (0 : Int) ≤ m.1 by omega
      have a1 : m.1 ≤ (1099511627776 : Ty.den t3) := show m.1 ≤ (1099511627776 : Int) by omega
      have b0 : (0 : Ty.den t3) ≤ m.2.1 := show (0 : Int) ≤ m.2.1 by omega
      have b1 : m.2.1 ≤ (1099511627776 : Ty.den t3) := show m.2.1 ≤ (1099511627776 : Int) by omega
      refine ⟨⟨by omega, h⟩, ⟨hpm2, hn, a0, a1⟩, ⟨hpm2, hn, b0, b1⟩, fun g => ⟨by simp only [List.length_singleton]; omega, by simp only [List.length_singleton]; omega, ⟨q + 1, hlt, rfl, ?_⟩, hdec⟩, fun g => ⟨⟨q + 1, hlt, rfl, ?_⟩, hdec⟩⟩
      · rw [hst, if_pos g]
      · rw [hst, if_neg g, List.append_nil]
    · have hke : q = w.2.1.length := by omega
      subst hke
      rw [List.take_length] at hol ⊢
      refine ⟨by rw [maxLen_eq]; omega, ?_⟩
      rw [shiftW, if_neg (by rw [hn]; decide), if_neg (by omega)]
theorem okNew {n : Int} {l : List Mark} (hl : l.length ≤ 200) (h : ∀ m ∈ l, okMark n m = true) : okSet (some (n, l, ())) := ⟨hl, h⟩
theorem p3 : vc3 := by
  unfold vc3
  simp only [eq_self, true_and, and_true, decide_eq_true_eq, decide_eq_false_iff_not, beq_iff_eq, beq_eq_false_iff_ne, bne_iff_ne, bne_eq_false_iff_eq, Bool.not_eq_true', Bool.not_eq_false', ne_eq, imp_true_iff, implies_true]
  rintro ⟨n, l, p, ⟨⟩⟩
  simp only
  intro hl h4
  rw [isM_new]
  rcases new_cases n l with ⟨e, he, h1, h2⟩ | ⟨h1, h2, h5, h6, h7, h8⟩
  · rw [h1, h2]
    exact ⟨hl, by omega, hl, ⟨by simp [allM], by simp⟩, fun h => (by cases h), fun _ h => by cases h⟩
  · rw [h1, h2]
    have hal : allM (some (n, l, ())) = l := rfl
    rw [hal]
    exact ⟨hl, by omega, hl, ⟨by omega, by show l.length ≤ 10000; omega⟩, fun h => (by cases h), fun _ _ => ⟨okNew h7 h8, by show l.length ≤ 10000; omega, fun h => absurd rfl h⟩⟩
theorem p6 : vc6 := by
  unfold vc6
  simp only [eq_self, true_and, and_true, decide_eq_true_eq, decide_eq_false_iff_not, beq_iff_eq, beq_eq_false_iff_ne, bne_iff_ne, bne_eq_false_iff_eq, Bool.not_eq_true', Bool.not_eq_false', ne_eq, imp_true_iff, implies_true]
  rintro ⟨n, l, p, ⟨⟩⟩
  simp only
  rintro ⟨hl, hp⟩ h4 h5
  rw [isM_new]
  rcases new_cases n l with ⟨e, he, h1, h2⟩ | ⟨h1, h2, h6, h7, h8, h9⟩
  · rw [h1, h2]
    exact ⟨hl, by omega, hl, ⟨by simp [allM], by simp⟩, fun h => (by cases h), fun _ h => by cases h⟩
  · have e1 : cRefNew.fn (n, cRefs.fn (l, ()), ()) = (n, l, 0, ()) := h2
    rw [e1, h1, h2]
    have hal : allM (some (n, l, ())) = l := rfl
    rw [isM_shift, isM_yes, hal]
    have b1 : (shiftL p l).length ≤ 200 := Nat.le_trans (shift_len p l) h8
    have c1 : (allM (shiftM (some (n, l, ())) p).1).length ≤ 10000 ∧ (shiftW (n, l, 0, ()) p).2.1.length ≤ 10000 := by
      unfold shiftM shiftW
      by_cases q1 : normal p = false
      · rw [if_pos q1, if_pos q1]; simp [allM]
      · rw [if_neg q1, if_neg q1]
        by_cases q2 : endOf p > n ∨ w64 (n + delta p) > 1099511627776
        · rw [if_pos (show endOf p > sizeM (some (n, l, ())) ∨ w64 (sizeM (some (n, l, ())) + delta p) > 1099511627776 from q2), if_pos q2]; simp [allM]
        · rw [if_neg (show ¬ (endOf p > sizeM (some (n, l, ())) ∨ w64 (sizeM (some (n, l, ())) + delta p) > 1099511627776) from q2), if_neg q2, hal]
          rcases new_cases (w64 (n + delta p)) (shiftL p l) with ⟨e, _, g1, g2⟩ | ⟨g1, g2, _⟩
          · rw [show sizeM (some (n, l, ())) = n from rfl, g1, g2]; simp [allM]
          · rw [show sizeM (some (n, l, ())) = n from rfl, g1, g2]
            show (shiftL p l).length ≤ 10000 ∧ (shiftL p l).length ≤ 10000
            omega
    exact ⟨hl, by omega, hl, ⟨by omega, by show l.length ≤ 10000; omega⟩, fun h => (by cases h), fun _ _ => ⟨⟨okNew h8 h9, h7, h6, by omega⟩, by omega, ⟨h8, h9, h6, h7, by omega⟩, c1, fun _ => ⟨⟨by omega, by show l.length ≤ 10000; omega⟩, fun h => by cases h⟩, fun h => by cases h⟩⟩
end Go.Fr.C40
