/-
  Chapter 10: proofs of the conditions, second part. Conditions: none.
-/
import Derived.Test.YtefahblfillfeaaC10O
namespace Go.Fr.C10
open Go Go.Fr Go.Proofs

theorem dflt57 : Ty.dflt t57 = zeroC := rfl
theorem beq57 {a b : Chg} : Ty.beq t57 a b = decide (a = b) := by
  obtain ⟨⟨a1, a2, ⟨⟩⟩, ⟨a3, a4, ⟨⟩⟩, ⟨⟩⟩ := a
  obtain ⟨⟨b1, b2, ⟨⟩⟩, ⟨b3, b4, ⟨⟩⟩, ⟨⟩⟩ := b
  show ((a1 == b1 && (a2 == b2 && true)) && ((a3 == b3 && (a4 == b4 && true)) && true)) = _
  rw [Bool.eq_iff_iff]
  simp only [Bool.and_eq_true, beq_iff_eq, Bool.and_true, decide_eq_true_eq, Prod.mk.injEq, and_true]
theorem p18 : vc18 := by
  unfold vc18
  simp only [eq_self, true_and, and_true, decide_eq_true_eq, decide_eq_false_iff_not, beq_iff_eq, beq_eq_false_iff_ne, bne_iff_ne, bne_eq_false_iff_eq, Bool.not_eq_true', Bool.not_eq_false', ne_eq, imp_true_iff, implies_true]
  rintro ⟨a, b, ⟨⟩⟩
  simp only
  rintro ⟨ha, hb⟩
  rw [maxLen_eq] at ha hb
  rw [dflt57]
  simp only [beq57, decide_eq_true_eq, decide_eq_false_iff_not]
  refine ⟨fun z => ∃ k : Nat, k ≤ a.length ∧ z.1 = (k : Int) ∧ k ≤ b.length ∧ a.take k = b.take k, fun z => a.length - z.1.toNat, ⟨0, Nat.zero_le _, rfl, Nat.zero_le _, rfl⟩, ?_⟩
  rintro i ⟨k, hk, hi, hkb, ht⟩
  simp only at hi
  subst hi
  refine ⟨fun h => ?_, fun h => ?_⟩
  · have hl : k < a.length := by omega
    have hw : IntKind.i64.wrap ((k : Int) + 1) = ((k + 1 : Nat) : Int) := wrap_succ (by omega)
    rw [toNat_cast, hw]
    refine ⟨fun g => ?_, fun g => ⟨⟨by omega, h⟩, ⟨by omega, by omega⟩, fun e => ?_, fun e => ?_⟩⟩
    · refine eq_false_of fun e => ?_
      have := of_decide_eq_true e
      subst this
      omega
    · refine eq_false_of fun e2 => e ?_
      have := of_decide_eq_true e2
      subst this
      rfl
    · have hlb : k < b.length := by omega
      refine ⟨⟨k + 1, hl, rfl, hlb, ?_⟩, ?_⟩
      · rw [List.take_succ_eq_append_getElem hl, List.take_succ_eq_append_getElem hlb, ht, ← getD_of zeroC hl, ← getD_of zeroC hlb, e]
      · show a.length - (((k + 1 : Nat) : Int)).toNat < a.length - (k : Int).toNat
        rw [toNat_cast, toNat_cast]; omega
  · have : k = a.length := by omega
    subst this
    rw [List.take_length] at ht
    rw [Bool.eq_iff_iff]
    simp only [beq_iff_eq, decide_eq_true_eq]
    constructor
    · intro e
      have : a.length = b.length := by omega
      rw [ht, this, List.take_length]
    · intro e; rw [← e]
theorem p22 : vc22 := by
  unfold vc22
  simp only [eq_self, true_and, and_true, decide_eq_true_eq, decide_eq_false_iff_not, beq_iff_eq, beq_eq_false_iff_ne, bne_iff_ne, bne_eq_false_iff_eq, Bool.not_eq_true', Bool.not_eq_false', ne_eq, imp_true_iff, implies_true]
  rintro ⟨l, ⟨⟩⟩
  simp only
  intro hl
  rw [maxLen_eq] at hl ⊢
  rw [dflt56]
  have sm : small l = true ↔ l.length ≤ 60 ∧ normal l = true ∧ bd l 2000 := small_iff
  refine ⟨fun h => eq_false_of fun e => by have := sm.1 e; omega, fun h => ⟨by omega, hl, fun n => eq_false_of fun e => (by have := (sm.1 e).2.1; rw [n] at this; cases this), fun n => ?_⟩⟩
  refine ⟨fun z => ∃ k : Nat, k ≤ l.length ∧ z.1 = (k : Int) ∧ bd (l.take k) 2000, fun z => l.length - z.1.toNat, ⟨0, Nat.zero_le _, rfl, fun c hc => by simp at hc⟩, ?_⟩
  rintro i ⟨k, hk, hi, ht⟩
  simp only at hi
  subst hi
  refine ⟨fun h => ?_, fun h => ?_⟩
  · have hl : k < l.length := by omega
    have hw : IntKind.i64.wrap ((k : Int) + 1) = ((k + 1 : Nat) : Int) := wrap_succ (by omega)
    have hm : l.getD k zeroC ∈ l := by rw [getD_of _ hl]; exact List.getElem_mem _
    rw [toNat_cast, hw]
    refine ⟨⟨by omega, h⟩, fun g => eq_false_of fun e => by have := (sm.1 e).2.2 _ hm; omega, fun g => ⟨fun g2 => eq_false_of fun e => by have := (sm.1 e).2.2 _ hm; omega, fun g2 => ⟨⟨k + 1, hl, rfl, ?_⟩, ?_⟩⟩⟩
    · intro c hc
      rw [List.take_succ_eq_append_getElem hl] at hc
      rcases List.mem_append.1 hc with hc | hc
      · exact ht c hc
      · have : c = l.getD k zeroC := by rw [getD_of _ hl]; simpa using hc
        subst this
        omega
    · show l.length - (((k + 1 : Nat) : Int)).toNat < l.length - (k : Int).toNat
      rw [toNat_cast, toNat_cast]; omega
  · have : k = l.length := by omega
    subst this
    rw [List.take_length] at ht
    exact (sm.2 ⟨by omega, n, ht⟩).symm
theorem keptFrom_step {l : List Chg} {k : Nat} (h : k < l.length) (p s : Int) :
    (p < (l.getD k zeroC).1.1 → keptFrom p (l.drop k) s = p + s) ∧
    ((l.getD k zeroC).1.1 ≤ p → p < (l.getD k zeroC).1.2.1 → keptFrom p (l.drop k) s = -1) ∧
    ((l.getD k zeroC).1.1 ≤ p → (l.getD k zeroC).1.2.1 ≤ p → keptFrom p (l.drop k) s = keptFrom p (l.drop (k + 1)) ((l.getD k zeroC).2.1.2.1 - (l.getD k zeroC).1.2.1)) := by
  rw [drop_cons zeroC h]
  generalize l.getD k zeroC = c
  simp only [keptFrom]
  refine ⟨fun a => if_pos a, fun a b => ?_, fun a b => ?_⟩
  · rw [if_neg (by omega), if_pos b]
  · rw [if_neg (by omega), if_neg (by omega)]
theorem p24 : vc24 := by
  unfold vc24
  simp only [eq_self, true_and, and_true, decide_eq_true_eq, decide_eq_false_iff_not, beq_iff_eq, beq_eq_false_iff_ne, bne_iff_ne, bne_eq_false_iff_eq, Bool.not_eq_true', Bool.not_eq_false', ne_eq, imp_true_iff, implies_true]
  rintro ⟨l, p, ⟨⟩⟩
  simp only
  rintro ⟨hx, hn, hp0, hp1⟩
  replace hp0 : (0 : Int) ≤ p := hp0
  replace hp1 : p ≤ (10995116277760 : Int) := hp1
  rw [maxLen_eq] at hx
  rw [dflt57]
  refine ⟨fun z => ∃ k : Nat, k ≤ l.length ∧ z.2.1 = (k : Int) ∧ -1099511627776 ≤ z.1 ∧ z.1 ≤ 1099511627776 ∧ kept l p = keptFrom p (l.drop k) z.1, fun z => l.length - z.2.1.toNat, ⟨0, Nat.zero_le _, rfl, by simp, by simp, rfl⟩, ?_⟩
  rintro s i ⟨k, hk, hi, hs0, hs1, hm⟩
  simp only at hi hm hs0 hs1
  subst hi
  refine ⟨fun h => ?_, fun h => ?_⟩
  · have hl : k < l.length := by omega
    have hw : IntKind.i64.wrap ((k : Int) + 1) = ((k + 1 : Nat) : Int) := wrap_succ (by omega)
    obtain ⟨q1, q2, q3⟩ := keptFrom_step hl p s
    have ok := normal_ok hn hl
    rw [toNat_cast, hw]
    generalize l.getD k zeroC = c at *
    have hw2 : IntKind.i64.wrap (c.2.1.2.1 - c.1.2.1) = c.2.1.2.1 - c.1.2.1 := by rw [wrap_eq]; omega
    rw [hw2, hm]
    refine ⟨⟨by omega, h⟩, fun g => ?_, fun g => ⟨fun g2 => (q2 (by omega) g2).symm, fun g2 => ⟨⟨k + 1, hl, rfl, by simp only; omega, by simp only; omega, q3 (by omega) (by omega)⟩, ?_⟩⟩⟩
    · rw [q1 g, wrap_eq]; omega
    · show l.length - (((k + 1 : Nat) : Int)).toNat < l.length - (k : Int).toNat
      rw [toNat_cast, toNat_cast]; omega
  · have : k = l.length := by omega
    subst this
    rw [hm, List.drop_length]
    show _ = p + s
    rw [wrap_eq]; omega
theorem p35 : vc35 := by
  unfold vc35
  simp only [eq_self, true_and, and_true, decide_eq_true_eq, decide_eq_false_iff_not, beq_iff_eq, beq_eq_false_iff_ne, bne_iff_ne, bne_eq_false_iff_eq, Bool.not_eq_true', Bool.not_eq_false', ne_eq, imp_true_iff, implies_true]
  rintro ⟨l, ⟨⟩⟩
  simp only
  intro hl
  rw [maxLen_eq] at hl
  rw [dflt57]
  refine ⟨fun h => ?_, fun h => ?_⟩
  · have : l = [] := List.eq_nil_of_length_eq_zero (by omega)
    rw [this]; rfl
  · have hw : IntKind.i64.wrap ((l.length : Int) - 1) = ((l.length - 1 : Nat) : Int) := by rw [wrap_eq]; omega
    rw [hw, toNat_cast]
    refine ⟨⟨by omega, by omega⟩, ?_⟩
    have hlt : l.length - 1 < l.length := by omega
    rw [getD_of _ hlt]
    unfold endOf
    rw [List.getLast?_eq_getElem?, List.getElem?_eq_getElem hlt]
theorem p25 : vc25 := by
  unfold vc25
  simp only [eq_self, true_and, and_true, decide_eq_true_eq, decide_eq_false_iff_not, beq_iff_eq, beq_eq_false_iff_ne, bne_iff_ne, bne_eq_false_iff_eq, Bool.not_eq_true', Bool.not_eq_false', ne_eq, imp_true_iff, implies_true]
  intro x hx
  rw [dflt56]
  refine ⟨fun z => ∃ k : Nat, k ≤ x.1.length ∧ z.1 = (x.1.take k).map inv ∧ z.2.1 = (k : Int), fun z => x.1.length - z.2.1.toNat, ⟨0, Nat.zero_le _, rfl, rfl⟩, ?_⟩
  rintro a i ⟨k, hk, ha, hi⟩
  simp only at ha hi
  subst hi ha
  refine ⟨fun h => ?_, fun h => ?_⟩
  · have hl : k < x.1.length := by omega
    have hw : IntKind.i64.wrap ((k : Int) + 1) = ((k + 1 : Nat) : Int) := wrap_succ (by omega)
    rw [toNat_cast, hw, maxLen_eq]
    have e : ((x.1.take k).map inv).length = k := by rw [List.length_map, List.length_take]; omega
    have e2 : ∀ c : Chg, [c].length = 1 := fun _ => rfl
    rw [e, e2]
    refine ⟨⟨by omega, h⟩, by omega, by omega, ⟨k + 1, hl, ?_, rfl⟩, ?_⟩
    · show _ = List.map inv (List.take (k + 1) x.1)
      rw [List.take_succ_eq_append_getElem hl, List.map_append, getD_of _ hl]
      rfl
    · show x.1.length - (((k + 1 : Nat) : Int)).toNat < x.1.length - (k : Int).toNat
      rw [toNat_cast, toNat_cast]; omega
  · have : k = x.1.length := by omega
    subst this
    rw [List.take_length]
    rfl

theorem cplaces_succ (K : Int → Int) (k : Nat) : cplaces K (k + 1) = cstep K (cplaces K k) k := by
  unfold cplaces
  rw [List.range_succ, List.foldl_append]
  rfl
theorem cplaces_len (K : Int → Int) : ∀ k, (cplaces K k).1.length ≤ k
  | 0 => Nat.le_refl _
  | k + 1 => by
    rw [cplaces_succ]
    have ih := cplaces_len K k
    unfold cstep
    split
    · omega
    · simp only
      split
      · rw [List.length_append]; simp only [List.length_cons, List.length_nil]; omega
      · omega
theorem normal_bd {l : List Chg} (h : normal l = true) : bd l 1099511627776 := by
  have key : ∀ (l : List Chg) (last : Chg) (f : Bool), normFrom last f l = true → bd l 1099511627776 := by
    intro l
    induction l with
    | nil => intro _ _ _ c hc; cases hc
    | cons d r ih =>
      intro last f h c hc
      have h := normFrom_cons.1 h
      have ok := ok_bounds h.1
      rcases List.mem_cons.1 hc with rfl | hc
      · exact ⟨ok.1.2.2, ok.2.1.2.2⟩
      · exact ih d false h.2 c hc
  exact key l zeroC true h
theorem p23 : vc23 := by
  unfold vc23
  simp only [eq_self, true_and, and_true, decide_eq_true_eq, decide_eq_false_iff_not, beq_iff_eq, beq_eq_false_iff_ne, bne_iff_ne, bne_eq_false_iff_eq, Bool.not_eq_true', Bool.not_eq_false', ne_eq, imp_true_iff, implies_true]
  rintro ⟨a, b, ⟨⟩⟩
  simp only
  rintro ⟨la, lb, na, nb, ea, eb⟩
  rw [maxLen_eq]
  have za := last_nonneg na
  have zb := last_nonneg nb
  rw [← endOf_eq] at za zb
  have hw0 : IntKind.i64.wrap (IntKind.i64.wrap (endOf a + endOf b) + 1) = endOf a + endOf b + 1 := by
    simp only [wrap_eq]; omega
  rw [hw0]
  have hn : ∃ n : Nat, (endOf a + endOf b + 2).toNat = n ∧ (n : Int) = endOf a + endOf b + 2 := ⟨_, rfl, by omega⟩
  obtain ⟨n, hn1, hn2⟩ := hn
  refine ⟨by omega, by omega, fun z => ∃ k : Nat, k ≤ n ∧ z.2.2.2.1 = (k : Int) ∧ cplaces (both a b) k = (z.1, z.2.1, z.2.2.1), fun z => n - z.2.2.2.1.toNat, ⟨0, Nat.zero_le _, rfl, rfl⟩, ?_⟩
  rintro o w t i ⟨k, hk, hi, hs⟩
  simp only at hi hs
  subst hi
  refine ⟨fun h => ?_, fun h => ?_⟩
  · have hl : k < n := by omega
    have hw : IntKind.i64.wrap ((k : Int) + 1) = ((k + 1 : Nat) : Int) := wrap_succ (by omega)
    have ka := kept_le na (normal_bd na) (by omega) (p := k) (by omega) (by rw [← endOf_eq]; omega)
    have kb : 0 ≤ kept a k → kept b (kept a k) ≤ kept a k + 1099511627776 := fun h => kept_le nb (normal_bd nb) (by omega) h (by rw [← endOf_eq]; omega)
    have sa := kept_sign na (p := k) (by omega)
    have sb : 0 ≤ kept a k → kept b (kept a k) = -1 ∨ 0 ≤ kept b (kept a k) := fun h => kept_sign nb h
    have step := cplaces_succ (both a b) k
    rw [hs] at step
    have len := cplaces_len (both a b) k
    rw [hs] at len
    simp only [cstep] at step len
    have b1 : 0 ≤ kept a k → both a b k = kept b (kept a k) := fun h => by unfold both; rw [if_pos h]
    have b0 : ¬ 0 ≤ kept a k → both a b k = kept a k := fun h => by unfold both; rw [if_neg h]
    rw [hw]
    have hdec : n - (((k + 1 : Nat) : Int)).toNat < n - (k : Int).toNat := by rw [toNat_cast, toNat_cast]; omega
    have one : ∀ c : Chg, [c].length = 1 := fun _ => rfl
    rw [one]
    have skip : both a b k < 0 → ∃ k' : Nat, k' ≤ n ∧ ((k + 1 : Nat) : Int) = (k' : Int) ∧ cplaces (both a b) k' = (o, w, t) := fun h => ⟨k + 1, hl, rfl, by rw [step, if_pos h]⟩
    have add : 0 ≤ kept a k → 0 ≤ kept b (kept a k) → (w < k ∨ t < kept b (kept a k)) → ∃ k' : Nat, k' ≤ n ∧ ((k + 1 : Nat) : Int) = (k' : Int) ∧ cplaces (both a b) k' = (o ++ [((w, (k : Int), ()), (t, kept b (kept a k), ()), ())], ((k + 1 : Nat) : Int), IntKind.i64.wrap (kept b (kept a k) + 1)) := fun h h2 h3 => by
      have hw2 : IntKind.i64.wrap (kept b (kept a k) + 1) = kept b (kept a k) + 1 := by have := kb h; rw [wrap_eq]; omega
      refine ⟨k + 1, hl, rfl, ?_⟩
      rw [step, b1 h, if_neg (by omega), if_pos h3, hw2]
      rfl
    have stay : 0 ≤ kept a k → 0 ≤ kept b (kept a k) → ¬ (w < k ∨ t < kept b (kept a k)) → ∃ k' : Nat, k' ≤ n ∧ ((k + 1 : Nat) : Int) = (k' : Int) ∧ cplaces (both a b) k' = (o, ((k + 1 : Nat) : Int), IntKind.i64.wrap (kept b (kept a k) + 1)) := fun h h2 h3 => by
      have hw2 : IntKind.i64.wrap (kept b (kept a k) + 1) = kept b (kept a k) + 1 := by have := kb h; rw [wrap_eq]; omega
      refine ⟨k + 1, hl, rfl, ?_⟩
      rw [step, b1 h, if_neg (by omega), if_neg h3, hw2]
      rfl
    (repeat' (first | apply And.intro | intro _))
    all_goals first
      | omega
      | assumption
      | exact hdec
      | (refine skip ?_; first | (rw [b1 (by omega)]; omega) | (rw [b0 (by omega)]; omega))
      | (refine add ?_ ?_ ?_ <;> omega)
      | (refine stay ?_ ?_ ?_ <;> omega)
      | (show (0 : Int) ≤ _; omega)
      | (show _ ≤ (10995116277760 : Int); omega)
  · have : k = n := by omega
    subst this
    have : refCompose a b = (cplaces (both a b) k).1 := by unfold refCompose; rw [hn1]
    rw [this, hs]
end Go.Fr.C10
