/-
  Chapter 40: proofs of the conditions: styles at places. Conditions: none.
-/
import Derived.Test.YtpkdccmpadkmjaaC40Q
namespace Go.Fr.C40
open Go Go.Fr Go.Proofs

theorem isM_iff {s : Option MSet} {e : Int} {w : WSet} : isM s e w = true ↔ e = w.2.2.1 ∧ (s.isNone = true ↔ ¬ w.2.2.1 = 0) ∧ (s.isNone = true ∨ allM s = w.2.1) := by
  simp only [isM, Bool.and_eq_true, decide_eq_true_eq, Bool.or_eq_true]
theorem bne4 (a b : Bool) : Ty.beq t4 a b = (a == b) := rfl
theorem p12 : vc12 := by
  unfold vc12
  simp only [bne4]
  simp only [eq_self, true_and, and_true, decide_eq_true_eq, decide_eq_false_iff_not, beq_iff_eq, beq_eq_false_iff_ne, bne_iff_ne, bne_eq_false_iff_eq, Bool.not_eq_true', Bool.not_eq_false', ne_eq, imp_true_iff, implies_true]
  rintro ⟨s, e, w, ⟨⟩⟩
  simp only
  rintro ⟨ls, lw⟩
  rw [d64]
  have no : ¬ isM s e w = true → false = isM s e w := eq_false_of
  rw [isM_iff] at no
  refine ⟨fun h => no (fun hh => h hh.1), fun h1 => ⟨fun h => no (fun hh => ?_), fun h2 => ⟨fun h3 => ?_, fun h3 => ⟨ls, by omega, ?_⟩⟩⟩⟩
  · have h4 := hh.2.1
    by_cases h5 : w.2.2.1 = 0
    · have : s.isNone = false := by
        cases hs : s.isNone with
        | false => rfl
        | true => exact absurd h5 (h4.1 hs)
      rw [this, h5] at h
      exact h rfl
    · have : s.isNone = true := h4.2 h5
      rw [this] at h
      have hb : (w.2.2.1 != 0) = true := by simpa using h5
      rw [hb] at h
      exact h rfl
  · have : isM s e w = true := isM_iff.2 ⟨h1, ⟨fun _ h5 => ?_, fun _ => h3⟩, .inl h3⟩
    · rw [this]
    · rw [h3, h5] at h2
      cases h2
  have h6 : w.2.2.1 = 0 := by
    rw [h3] at h2
    by_cases h5 : w.2.2.1 = 0
    · exact h5
    · have hb : (w.2.2.1 != 0) = true := by simpa using h5
      rw [hb] at h2
      cases h2
  have yes : allM s = w.2.1 → isM s e w = true := fun h => isM_iff.2 ⟨h1, ⟨fun h => (by rw [h3] at h; cases h), fun h => absurd h6 h⟩, .inr h⟩
  have no2 : ¬ (allM s = w.2.1) → false = isM s e w := fun h => no (fun hh => by
    rcases hh.2.2 with h4 | h4
    · rw [h3] at h4; cases h4
    · exact h h4)
  refine ⟨fun z => ∃ k : Nat, k ≤ (allM s).length ∧ z.1 = (k : Int) ∧ ∀ j, j < k → (allM s).getD j zM = w.2.1.getD j zM, fun z => (allM s).length - z.1.toNat, ⟨0, Nat.zero_le _, rfl, fun j hj => by omega⟩, ?_⟩
  rintro i ⟨k, hk, hi, hs⟩
  simp only at hi
  subst hi
  refine ⟨fun h => ?_, fun h => ?_⟩
  · have hl : k < (allM s).length := by omega
    have hw : IntKind.i64.wrap ((k : Int) + 1) = ((k + 1 : Nat) : Int) := wrap_succ (by omega)
    rw [toNat_cast, hw]
    refine ⟨⟨by omega, h⟩, fun g => no2 (fun h => by rw [h] at hl; omega), fun g => ⟨⟨by omega, by omega⟩, fun g => no2 (fun h => ?_), fun g => ⟨⟨k + 1, hl, rfl, fun j hj => ?_⟩, ?_⟩⟩⟩
    · have : Ty.beq t64 ((allM s).getD k zM) (w.2.1.getD k zM) = true := (beqM _ _).2 (by rw [h])
      rw [this] at g
      cases g
    · by_cases e : j = k
      · subst e; exact (beqM _ _).1 g
      · exact hs j (by omega)
    · show (allM s).length - (((k + 1 : Nat) : Int)).toNat < (allM s).length - (k : Int).toNat
      rw [toNat_cast, toNat_cast]; omega
  · have : k = (allM s).length := by omega
    subst this
    by_cases hl : (allM s).length = w.2.1.length
    · have := eq_of_get zM hl hs
      rw [yes this]
      simp [hl]
    · have h2 : ¬ (((allM s).length : Int) = (w.2.1.length : Int)) := by omega
      rw [← no2 (fun h => hl (by rw [h]))]
      simp [h2]
theorem at_take {l : List Mark} {k : Nat} (p : Int) (h : k < l.length) : (l.take (k + 1)).foldl (atStep p) (0, 0) = atStep p ((l.take k).foldl (atStep p) (0, 0)) (l.getD k zM) := by
  rw [foldl_take_succ h, getD_of zM h]
theorem p14 : vc14 := by
  unfold vc14
  simp only [eq_self, true_and, and_true, decide_eq_true_eq, decide_eq_false_iff_not, beq_iff_eq, beq_eq_false_iff_ne, bne_iff_ne, bne_eq_false_iff_eq, Bool.not_eq_true', Bool.not_eq_false', ne_eq, imp_true_iff, implies_true]
  rintro ⟨w, p, ⟨⟩⟩
  simp only
  intro hl
  rw [d64]
  generalize w.2.1 = l at *
  refine ⟨fun z => ∃ k : Nat, k ≤ l.length ∧ z.2.2.1 = (k : Int) ∧ (l.take k).foldl (atStep p) (0, 0) = (z.1, z.2.1), fun z => l.length - z.2.2.1.toNat, ⟨0, Nat.zero_le _, rfl, rfl⟩, ?_⟩
  rintro s y i ⟨k, hk, hi, hs⟩
  simp only at hi hs
  subst hi
  refine ⟨fun h => ?_, fun h => ?_⟩
  · have hlt : k < l.length := by omega
    have hw : IntKind.i64.wrap ((k : Int) + 1) = ((k + 1 : Nat) : Int) := wrap_succ (by omega)
    have hst := at_take p hlt
    rw [hs] at hst
    rw [toNat_cast, hw]
    have next : ∀ a b, atStep p (s, y) (l.getD k zM) = (a, b) → (∃ k' : Nat, k' ≤ l.length ∧ ((k + 1 : Nat) : Int) = (k' : Int) ∧ (l.take k').foldl (atStep p) (0, 0) = (a, b)) :=
      fun a b hab => ⟨k + 1, hlt, rfl, by rw [hst, hab]⟩
    have hdec : l.length - (((k + 1 : Nat) : Int)).toNat < l.length - (k : Int).toNat := by rw [toNat_cast, toNat_cast]; omega
    generalize l.getD k zM = m at *
    have yes : p ≥ m.1 ∧ p < m.2.1 ∧ (s = 0 ∨ m.2.2.2.1 ≥ y) → atStep p (s, y) m = (m.2.2.1, m.2.2.2.1) := fun h => by rw [atStep, if_pos h]
    have not : ¬ (p ≥ m.1 ∧ p < m.2.1 ∧ (s = 0 ∨ m.2.2.2.1 ≥ y)) → atStep p (s, y) m = (s, y) := fun h => by rw [atStep, if_neg h]
    (repeat' (first | apply And.intro | intro _))
    all_goals first
      | omega
      | exact hdec
      | exact next _ _ (yes ⟨by omega, by omega, by omega⟩)
      | exact next _ _ (not (by omega))
  · have : k = l.length := by omega
    subst this
    rw [List.take_length] at hs
    rw [atL, hs]
theorem ok_style {s : Option MSet} (h : okSet s) {k : Nat} (hk : k < (allM s).length) : 1 ≤ ((allM s).getD k zM).2.2.1 := by
  rw [getD_of zM hk]
  exact (okMark_iff.1 (h.2 _ (List.getElem_mem hk))).2.2.2
theorem p13 : vc13 := by
  unfold vc13
  simp only [eq_self, true_and, and_true, decide_eq_true_eq, decide_eq_false_iff_not, beq_iff_eq, beq_eq_false_iff_ne, bne_iff_ne, bne_eq_false_iff_eq, Bool.not_eq_true', Bool.not_eq_false', ne_eq, imp_true_iff, implies_true]
  rintro ⟨s, p, ⟨⟩⟩
  simp only
  intro hok
  rw [d60]
  have hl : (allM s).length ≤ 200 := hok.1
  have hsty : ∀ k, k < (allM s).length → 1 ≤ ((allM s).getD k zM).2.2.1 := fun k hk => ok_style hok hk
  generalize allM s = l at *
  refine ⟨by omega, fun z => ∃ k : Nat, k ≤ l.length ∧ z.2.1 = (k : Int) ∧ (l.take k).foldl (atStep p) (0, 0) = (z.2.2.2.2.1, z.2.2.2.2.2.1) ∧ (z.1 = true ↔ ¬ z.2.2.2.2.1 = 0), fun z => l.length - z.2.1.toNat, ⟨0, Nat.zero_le _, rfl, rfl, by simp⟩, ?_⟩
  rintro f i a b s y ⟨k, hk, hi, hs, hf⟩
  simp only at hi hs hf
  subst hi
  refine ⟨fun h => ?_, fun h => ?_⟩
  · have hlt : k < l.length := by omega
    have hw : IntKind.i64.wrap ((k : Int) + 1) = ((k + 1 : Nat) : Int) := wrap_succ (by omega)
    have hst := at_take p hlt
    rw [hs] at hst
    have h1 := hsty k hlt
    rw [toNat_cast, hw]
    have hdec : l.length - (((k + 1 : Nat) : Int)).toNat < l.length - (k : Int).toNat := by rw [toNat_cast, toNat_cast]; omega
    have next : ∀ (g : Bool) a b, atStep p (s, y) (l.getD k zM) = (a, b) → (g = true ↔ ¬ a = 0) → (∃ k' : Nat, k' ≤ l.length ∧ ((k + 1 : Nat) : Int) = (k' : Int) ∧ (l.take k').foldl (atStep p) (0, 0) = (a, b) ∧ (g = true ↔ ¬ a = 0)) :=
      fun g a b hab hg => ⟨k + 1, hlt, rfl, by rw [hst, hab], hg⟩
    generalize l.getD k zM = m at *
    have yes : p ≥ m.1 ∧ p < m.2.1 ∧ (s = 0 ∨ m.2.2.2.1 ≥ y) → atStep p (s, y) m = (m.2.2.1, m.2.2.2.1) := fun h => by rw [atStep, if_pos h]
    have not : ¬ (p ≥ m.1 ∧ p < m.2.1 ∧ (s = 0 ∨ m.2.2.2.1 ≥ y)) → atStep p (s, y) m = (s, y) := fun h => by rw [atStep, if_neg h]
    have fs : f = false → s = 0 := fun h => by
      by_cases h0 : s = 0
      · exact h0
      · rw [hf.2 h0] at h; cases h
    have ft : f = true → ¬ s = 0 := hf.1
    have new : (true = true ↔ ¬ m.2.2.1 = 0) := ⟨fun _ => by omega, fun _ => rfl⟩
    (repeat' (first | apply And.intro | intro _))
    all_goals first
      | omega
      | exact hdec
      | (refine next _ _ _ (yes ⟨?_, ?_, ?_⟩) new <;> first | omega | (left; apply fs; assumption))
      | (refine next _ _ _ (not ?_) hf; first | omega | (rename_i h2 _; have := ft h2; omega) | (rename_i h2; have := ft h2; omega))
  · have : k = l.length := by omega
    subst this
    rw [List.take_length] at hs
    rw [atL, hs]
end Go.Fr.C40
