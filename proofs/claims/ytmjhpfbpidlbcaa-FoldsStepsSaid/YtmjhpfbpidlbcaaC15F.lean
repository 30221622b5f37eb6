/-
  Chapter 15: the laws FoldsNew, FoldsNil. Conditions: none.
-/
import Derived.Test.YtmjhpfbpidlbcaaC15E
namespace Go.Fr.C15
open Go Go.Fr Go.Proofs

theorem hide_first (P : Int → Prop) : ∀ (l out : List Span), (∀ h ∈ out, P h.1) → (∀ x ∈ l, P x.1) → ∀ h ∈ l.foldl hideStep out, P h.1
  | [], out, ho, _ => ho
  | x :: r, out, ho, hl => by
    refine hide_first P r (hideStep out x) ?_ fun y hy => hl y (List.mem_cons_of_mem _ hy)
    intro h hh
    unfold hideStep at hh
    split at hh
    · rename_i u hu
      split at hh
      · rcases List.mem_append.1 hh with h1 | h1
        · exact ho h (List.dropLast_subset _ h1)
        · rw [List.mem_singleton.1 h1]
          exact ho u (List.mem_of_getLast? hu)
      · rcases List.mem_append.1 hh with h1 | h1
        · exact ho h h1
        · rw [List.mem_singleton.1 h1]
          exact hl x (List.mem_cons_self ..)
    · rcases List.mem_append.1 hh with h1 | h1
      · exact ho h h1
      · rw [List.mem_singleton.1 h1]
        exact hl x (List.mem_cons_self ..)
theorem p4 : vc4 := by
  unfold vc4
  simp only [eq_self, true_and, and_true, decide_eq_true_eq, decide_eq_false_iff_not, beq_iff_eq, beq_eq_false_iff_ne, bne_iff_ne, bne_eq_false_iff_eq, Bool.not_eq_true', Bool.not_eq_false', ne_eq, imp_true_iff, implies_true]
  rintro ⟨n, l, at_, ⟨⟩⟩
  simp only [maxLen_eq]
  intro hl
  refine fun h1 => ?_
  obtain ⟨m1, m2, m3, m4, m5⟩ := made_of n l
  refine ⟨by omega, by omega, ⟨by omega, by omega, m5⟩, fun h => ?_, fun _ h2 => ⟨by omega, m5, ?_⟩⟩
  · rw [m1] at h; cases h
  have hm : Made (newF n l).1 (newW n l) := by
    rcases m2 with h3 | ⟨_, h3⟩
    · rw [h3] at h2; cases h2
    · exact h3
  obtain ⟨_, hok, hn1, hn0, e1, e2, e3, e4, hr, _⟩ := hm.ok
  generalize (newF n l).1 = s at *
  generalize newW n l = w at *
  have hf : ∀ h ∈ hidF s, 0 ≤ h.1 := by
    rw [e4, e2]
    exact hide_first (fun a => 0 ≤ a) _ [] (fun h hh => by cases hh) fun x hx => (okS_iff.1 (hok.2.2 x hx)).1
  rw [← e4]
  unfold overF overW
  cases hfind : (hidF s).find? (inF at_) with
  | none => exact ⟨fun _ => ⟨fun _ => fun h => absurd h (by decide), fun h => by cases h⟩, fun h => absurd h (by decide)⟩
  | some x =>
    have hx := hf x (List.mem_of_find?_eq_some hfind)
    refine ⟨fun h => by simp only at h; omega, fun _ => ⟨fun _ h => ?_, fun h => by cases h⟩⟩
    exact ((beqS_f _ _).1 h rfl).elim
theorem p7 : vc7 := by
  unfold vc7
  simp only [beq4]
  simp only [eq_self, true_and, and_true, decide_eq_true_eq, decide_eq_false_iff_not, beq_iff_eq, beq_eq_false_iff_ne, bne_iff_ne, bne_eq_false_iff_eq, Bool.not_eq_true', Bool.not_eq_false', ne_eq, imp_true_iff, implies_true]
  rintro ⟨x, ⟨⟩⟩
  have a0 : allF none = [] := rfl
  have h0 : hidF none = [] := rfl
  have l0 : lenF none = 0 := rfl
  have o0 : (overF none x.1).2.1 = false := rfl
  have sn : shiftF none [] = (some (0, [], [], ()), 0, ()) := by
    have hd : delta [] = 0 := rfl
    unfold shiftF
    rw [if_neg (by decide), if_neg (by decide)]
    unfold newF
    rw [if_neg (by decide), if_neg (by decide), if_pos (by rfl)]
    simp [sortS, sortBy, hideL, shiftL, allF, w64, lenF, hd, wrap_eq]
  have an : newF (lenF none) (allF none ++ [x]) = (none, 1, ()) := by
    have : errF 0 [] [x] = 1 := err_bad (okS_no.2 (by omega))
    unfold newF
    rw [l0, a0]
    rw [if_neg (by decide), if_neg (by simp), if_neg (by rw [List.nil_append, this]; decide), List.nil_append, this]
  have rn : ∃ t e, removeF none x = (t, 0, e, ()) ∧ (e = 0 ↔ x = (0, 0, ())) ∧ (t.isNone = true ↔ ¬ e = 0) := by
    unfold removeF
    rw [l0, a0]
    by_cases h : fitsF x 0 = false
    · rw [if_pos h]
      refine ⟨none, 1, rfl, ⟨fun h => (by cases h), fun h2 => ?_⟩, by simp⟩
      rw [h2] at h
      exact absurd h (by decide)
    · rw [if_neg h]
      have hf := fits_yes.1 (by simpa using h : fitsF x 0 = true)
      have hx : x = (0, 0, ()) := span_ext (show x.1 = 0 by omega) (show x.2.1 = 0 by omega)
      have : newF 0 (([] : List Span).filter (offF x)) = (some (0, [], [], ()), 0, ()) := by
        unfold newF
        rw [if_neg (by decide), if_neg (by simp), if_pos (by rfl)]
        simp [sortS, sortBy, hideL]
      refine ⟨some (0, [], [], ()), 0, ?_, by simp [hx], by simp⟩
      rw [this]
      rfl
  obtain ⟨t, e, r1, r2, r3⟩ := rn
  have b1 : (e == 0) = Ty.beq t33 x (0, 0, ()) := by
    by_cases h : e = 0
    · rw [(beqS _ _).2 (r2.1 h), h]; rfl
    · rw [(beqS_f _ _).2 (fun hh => h (r2.2 hh))]
      simpa using h
  have b2 : t.isNone = (e != 0) := by
    by_cases h : e = 0
    · have : t.isNone = false := by
        cases hh : t.isNone with
        | false => rfl
        | true => exact absurd h (r3.1 hh)
      rw [this, h]; rfl
    · rw [r3.2 h]
      symm
      simpa using h
  simp only [an, sn, r1]
  simp only [a0, h0, l0, o0, b1, b2]
  simp [okF, allF, hidF, lenF]
end Go.Fr.C15
