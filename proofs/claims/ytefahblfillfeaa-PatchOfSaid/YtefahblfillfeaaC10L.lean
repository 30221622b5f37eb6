/-
  Chapter 10: the laws' conditions, out of what is proved in plain Lean. Conditions: none.
-/
import Derived.Test.YtefahblfillfeaaC10Q
namespace Go.Fr.C10
open Go Go.Fr Go.Proofs

theorem compose_len (a b : List Chg) : (compose a b).1.length ≤ (a.length + 1) * (b.length + 1) := by
  unfold compose
  split
  · exact Nat.zero_le _
  · split
    · exact composeL_len a b
    · exact Nat.zero_le _
theorem not_small {l : List Chg} (h : ¬ small l = false) : small l = true := by cases hs : small l <;> simp_all
theorem p5 : vc5 := by
  unfold vc5
  simp only [eq_self, true_and, and_true, decide_eq_true_eq, decide_eq_false_iff_not, beq_iff_eq, beq_eq_false_iff_ne, bne_iff_ne, bne_eq_false_iff_eq, Bool.not_eq_true', Bool.not_eq_false', ne_eq, imp_true_iff, implies_true]
  rintro ⟨a, b, ⟨⟩⟩
  simp only
  rintro ⟨ma, mb⟩
  have hc := compose_len a b
  have form : normal a = false ∨ normal b = false → compose a b = ([], 4, ()) := fun h => by unfold compose; rw [if_pos h]
  have any : normal a = true → normal b = true → (compose a b).2.1 = 0 ∨ ((compose a b).2.1 = 5 ∧ (compose a b).1 = []) := fun h1 h2 => by
    unfold compose
    rw [if_neg (by simp [h1, h2])]
    split
    · exact Or.inl rfl
    · exact Or.inr ⟨rfl, rfl⟩
  rw [maxLen_eq] at *
  refine fun h1 h2 => ⟨⟨by omega, by omega⟩, by omega, ma, fun na => ?_, fun na => ⟨by omega, mb, fun nb => ?_, fun nb => ⟨ma, fun sa => ?_, fun sa => ⟨mb, fun sb => ?_, fun sb => ?_⟩⟩⟩⟩
  · rw [form (Or.inl na)]; simp
  · rw [form (Or.inr nb)]; simp
  · intro h0
    rcases any na nb with h | ⟨h, e⟩
    · exact (h0 h).elim
    · rw [h, e]; simp
  · intro h0
    rcases any na nb with h | ⟨h, e⟩
    · exact (h0 h).elim
    · rw [h, e]; simp
  · obtain ⟨la, _, ba⟩ := small_iff.1 sa
    obtain ⟨lb, _, bb⟩ := small_iff.1 sb
    have e := compose_ok na nb ba bb (by omega) (by omega)
    have g := composeL_good na nb ba bb (by omega) (by omega)
    have r := compose_ref na nb ba bb (by omega) (by omega)
    have d := delta_compose na nb ba bb (by omega) (by omega)
    have h3 : (a.length + 1) * (b.length + 1) ≤ 61 * 61 := Nat.mul_le_mul (by omega) (by omega)
    have ea : endOf a ≤ 2000 := by rw [endOf_eq]; exact (bd_last ba (by omega)).1
    have eb : endOf b ≤ 2000 := by rw [endOf_eq]; exact (bd_last bb (by omega)).1
    have da := bd_last ba (by omega)
    have db := bd_last bb (by omega)
    have za := last_nonneg na
    have zb := last_nonneg nb
    have hw : IntKind.i64.wrap (delta a + delta b) = delta a + delta b := by
      rw [delta_last na, delta_last nb, wrap_eq]; omega
    rw [hw, ← d]
    rw [e] at hc ⊢
    rw [← r]
    simp only at hc ⊢
    rw [g.1]
    simp only [decide_true, true_and, and_true, forall_const, not_true_eq_false, false_implies, reduceCtorEq, implies_true]
    refine ⟨by omega, by omega, by omega, ⟨by omega, by omega, na, nb, ea, eb⟩, ?_⟩
    have hcl : (composeL a b).length ≤ 9223372036854775807 := by omega
    simp [hcl, ma, mb]
theorem p6 : vc6 := by
  unfold vc6
  simp only [eq_self, true_and, and_true, decide_eq_true_eq, decide_eq_false_iff_not, beq_iff_eq, beq_eq_false_iff_ne, bne_iff_ne, bne_eq_false_iff_eq, Bool.not_eq_true', Bool.not_eq_false', ne_eq, imp_true_iff, implies_true]
  rintro ⟨a, b, p, ⟨⟩⟩
  simp only
  rintro ⟨ma, mb⟩
  have hc := compose_len a b
  rw [maxLen_eq] at *
  refine ⟨ma, fun sa => ⟨mb, fun sb p0 p1 => ?_⟩⟩
  obtain ⟨la, na, ba⟩ := small_iff.1 sa
  obtain ⟨lb, nb, bb⟩ := small_iff.1 sb
  have e := compose_ok na nb ba bb (by omega) (by omega)
  have g := composeL_good na nb ba bb (by omega) (by omega)
  have h3 : (a.length + 1) * (b.length + 1) ≤ 61 * 61 := Nat.mul_le_mul (by omega) (by omega)
  have k := g.2.2 p (by omega) (by omega)
  have za := last_nonneg na
  have kl := kept_le na ba (by omega) (p := p) (by omega) (by omega)
  rw [e] at hc ⊢
  simp only at hc ⊢
  have q0 : (0 : Ty.den t3) ≤ p := show (0 : Int) ≤ p by omega
  have q1 : p ≤ (10995116277760 : Ty.den t3) := show p ≤ (10995116277760 : Int) by omega
  refine ⟨⟨by omega, by omega⟩, fun h => (h trivial).elim, fun _ => ⟨by omega, ⟨ma, na, q0, q1⟩, fun h => ⟨by omega, ⟨mb, nb, h, show _ ≤ (10995116277760 : Int) by omega⟩, by omega, ⟨by omega, g.1, q0, q1⟩, fun h2 => ?_⟩, fun h => ⟨by omega, ⟨by omega, g.1, q0, q1⟩, fun h2 => ?_⟩⟩⟩
  · exfalso; apply h2; rw [k]; unfold both; rw [if_pos h]
  · exfalso; apply h2; rw [k]; unfold both; rw [if_neg h]
    have := kept_sign na (p := p) (by omega)
    omega
theorem p7 : vc7 := by
  unfold vc7
  simp only [eq_self, true_and, and_true, decide_eq_true_eq, decide_eq_false_iff_not, beq_iff_eq, beq_eq_false_iff_ne, bne_iff_ne, bne_eq_false_iff_eq, Bool.not_eq_true', Bool.not_eq_false', ne_eq, imp_true_iff, implies_true]
  rintro ⟨a, b, c, ⟨⟩⟩
  simp only
  rintro ⟨ma, mb, mc⟩
  rw [maxLen_eq] at *
  refine ⟨ma, fun sa => ⟨mb, fun sb => ⟨mc, fun sc => ?_⟩⟩⟩
  obtain ⟨la, na, ba⟩ := small_iff.1 sa
  obtain ⟨lb, nb, bb⟩ := small_iff.1 sb
  obtain ⟨lc, nc, bc⟩ := small_iff.1 sc
  have g1 := composeL_good na nb ba bb (by omega) (by omega)
  have g2 := composeL_good nb nc bb bc (by omega) (by omega)
  have e1 := compose_ok na nb ba bb (by omega) (by omega)
  have e2 := compose_ok nb nc bb bc (by omega) (by omega)
  have e3 := compose_ok g1.1 nc g1.2.1 (bd_mono bc (by omega)) (by omega) (by omega)
  have e4 := compose_ok na g2.1 (bd_mono ba (by omega)) g2.2.1 (by omega) (by omega)
  have e5 := assoc na nb nc ba bb bc
  have l1 := composeL_len a b
  have l2 := composeL_len b c
  have l3 := composeL_len (composeL a b) c
  have l4 := composeL_len a (composeL b c)
  have h1 : (a.length + 1) * (b.length + 1) ≤ 61 * 61 := Nat.mul_le_mul (by omega) (by omega)
  have h2 : (b.length + 1) * (c.length + 1) ≤ 61 * 61 := Nat.mul_le_mul (by omega) (by omega)
  have h3 : ((composeL a b).length + 1) * (c.length + 1) ≤ 3722 * 61 := Nat.mul_le_mul (by omega) (by omega)
  have h4 : (a.length + 1) * ((composeL b c).length + 1) ≤ 61 * 3722 := Nat.mul_le_mul (by omega) (by omega)
  rw [e1, e2]
  simp only
  rw [e3, e4]
  simp only
  rw [e5] at *
  refine ⟨⟨by omega, by omega⟩, ⟨by omega, by omega⟩, ⟨by omega, by omega⟩, ⟨by omega, by omega⟩, ?_⟩
  have h6 : (composeL a (composeL b c)).length ≤ 1000000000 := by omega
  have h7 : (composeL a (composeL b c)).length ≤ 9223372036854775807 := by omega
  simp [h6, h7]
theorem p8 : vc8 := by
  unfold vc8
  simp only [eq_self, true_and, and_true, decide_eq_true_eq, decide_eq_false_iff_not, beq_iff_eq, beq_eq_false_iff_ne, bne_iff_ne, bne_eq_false_iff_eq, Bool.not_eq_true', Bool.not_eq_false', ne_eq, imp_true_iff, implies_true]
  rintro ⟨a, p, ⟨⟩⟩
  simp only
  intro ma
  rw [maxLen_eq] at *
  refine ⟨ma, fun sa p0 p1 => ?_⟩
  obtain ⟨la, na, ba⟩ := small_iff.1 sa
  have ni := normal_inv na
  have bi := bd_inv ba
  have li : (invert a).length = a.length := by rw [invert_eq, List.length_map]
  have e := compose_ok na ni ba bi (by omega) (by omega)
  have g := composeL_good na ni ba bi (by omega) (by omega)
  have k := g.2.2 p (by omega) (by omega)
  have hc := composeL_len a (invert a)
  have h1 : (a.length + 1) * ((invert a).length + 1) ≤ 61 * 61 := Nat.mul_le_mul (by omega) (by omega)
  have za := last_nonneg na
  have da := bd_last ba (by omega)
  have hw : IntKind.i64.wrap (0 - delta a) = -delta a := by rw [delta_last na, wrap_eq]; omega
  have q0 : (0 : Ty.den t3) ≤ p := show (0 : Int) ≤ p by omega
  have q1 : p ≤ (10995116277760 : Ty.den t3) := show p ≤ (10995116277760 : Int) by omega
  have hk : (0 ≤ kept a p → both a (invert a) p = p) ∧ (¬ 0 ≤ kept a p → both a (invert a) p < 0) := by
    unfold both
    refine ⟨fun h => ?_, fun h => ?_⟩
    · rw [if_pos h]; exact kept_invert na (by omega) h
    · rw [if_neg h]; omega
  rw [inv_inv, delta_inv na, hw, e]
  simp only
  rw [k, ni]
  have hd : decide (kept a p ≥ 0) = decide (both a (invert a) p ≥ 0) := by
    rw [Bool.eq_iff_iff, decide_eq_true_eq, decide_eq_true_eq]
    by_cases h : 0 ≤ kept a p
    · have := hk.1 h; omega
    · have := hk.2 h; omega
  rw [hd]
  have hb : ∀ y : Bool, (Ty.beq t4 y y) = true := fun y => by cases y <;> rfl
  rw [hb]
  refine ⟨by omega, ⟨by omega, by omega⟩, fun h => (h trivial).elim, fun _ => ⟨by omega, fun h => (by cases h), fun _ => ⟨by omega, by omega, by omega, ⟨by omega, by omega⟩, fun h => (h trivial).elim, fun _ => ⟨by omega, ma, fun h => (h trivial).elim, fun _ => ⟨by omega, ⟨ma, na, q0, q1⟩, by omega, ⟨by omega, g.1, q0, q1⟩, ?_, fun h => (by cases h)⟩⟩⟩⟩⟩
  intro _ h
  by_cases h2 : 0 ≤ kept a p
  · intro h3; exact (h3 (hk.1 h2)).elim
  · have := hk.2 h2; omega
end Go.Fr.C10
