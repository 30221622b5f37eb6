/-
  Chapter 15: sets are held against the document's; what a set's making tells. Conditions: none.
-/
import Derived.Test.YtmjhpfbpidlbcaaC15X
namespace Go.Fr.C15
open Go Go.Fr Go.Proofs

theorem isF_iff {s : Option FSet} {e : Int} {w : WSet} : isF s e w = true ↔ e = w.2.2.1 ∧ (s.isNone = true ↔ ¬ w.2.2.1 = 0) ∧ (s.isNone = true ∨ (allF s = w.2.1 ∧ lenF s = w.1 ∧ hidF s = hideL w.2.1)) := by
  unfold isF
  simp only [Bool.and_eq_true, Bool.or_eq_true, decide_eq_true_eq]
theorem beq4 (a b : Bool) : Ty.beq t4 a b = (a == b) := rfl
theorem p12 : vc12 := by
  unfold vc12
  simp only [beq4]
  simp only [eq_self, true_and, and_true, decide_eq_true_eq, decide_eq_false_iff_not, beq_iff_eq, beq_eq_false_iff_ne, bne_iff_ne, bne_eq_false_iff_eq, Bool.not_eq_true', Bool.not_eq_false', ne_eq, imp_true_iff, implies_true]
  rintro ⟨s, e, w, ⟨⟩⟩
  simp only
  rintro ⟨ls, lh, lw⟩
  have no : ¬ isF s e w = true → false = isF s e w := eq_false_of
  rw [isF_iff] at no
  have hll := hideL_len w.2.1
  have lw1 : w.2.1.length ≤ 1000 := lw.1
  refine ⟨fun h => no (fun hh => h hh.1), fun h1 => ⟨fun h2 => no (fun hh => h2 ?_), fun h2 => ⟨fun h3 => ?_, fun h3 => ⟨ls, ⟨by rw [maxLen_eq]; omega, by rw [maxLen_eq]; omega⟩, fun h4 => ⟨fun h5 => ⟨lh, lw, ⟨by rw [maxLen_eq]; omega, by rw [maxLen_eq]; omega⟩, ?_⟩, fun h5 => no (fun hh => ?_)⟩, fun h4 => no (fun hh => ?_)⟩⟩⟩⟩
  · have h4 := hh.2.1
    by_cases h5 : w.2.2.1 = 0
    · have : s.isNone = false := by
        cases hs : s.isNone with
        | false => rfl
        | true => exact absurd h5 (h4.1 hs)
      rw [this, h5]
      rfl
    · have : s.isNone = true := h4.2 h5
      rw [this]
      have hb : (w.2.2.1 != 0) = true := by simpa using h5
      rw [hb]
  · have : isF s e w = true := isF_iff.2 ⟨h1, ⟨fun _ h5 => ?_, fun _ => h3⟩, .inl h3⟩
    · rw [this]
    · rw [h3, h5] at h2
      cases h2
  · have h6 : w.2.2.1 = 0 := by
      rw [h3] at h2
      have : (w.2.2.1 != 0) = false := by
        cases hb : (w.2.2.1 != 0) with
        | false => rfl
        | true => rw [hb] at h2; cases h2
      simpa using this
    unfold isF
    rw [h3]
    simp [h1, h6, h4, h5]
  · rcases hh.2.2 with h6 | h6
    · rw [h6] at h3; cases h3
    · exact h5 h6.2.1
  · rcases hh.2.2 with h6 | h6
    · rw [h6] at h3; cases h3
    · exact h4 h6.1

/-! ### What a set's making tells -/
theorem errF_sound {n : Int} : (seen l : List Span) → errF n seen l = 0 → (∀ x ∈ l, okS n x = true)
  | _, [], _ => fun x hx => by cases hx
  | seen, x :: r, h => by
    unfold errF at h
    by_cases h1 : okS n x = false
    · rw [if_pos h1] at h; cases h
    · rw [if_neg h1] at h
      by_cases h2 : x ∈ seen
      · rw [if_pos h2] at h; cases h
      · rw [if_neg h2] at h
        intro y hy
        rcases List.mem_cons.1 hy with e | hy
        · subst e; simpa using h1
        · exact errF_sound _ _ h y hy
theorem sort_mem {l : List Span} {x : Span} : x ∈ sortS l ↔ x ∈ l := (sortBy_perm l).mem_iff
theorem sort_right {l : List Span} (hl : l.length ≤ 1000) (hv : ∀ x ∈ l, x.1 < x.2.1) : RightL (sortS l) := by
  refine ⟨by rw [sort_len]; exact hl, ?_, fun x hx => hv x (sort_mem.1 hx)⟩
  exact (sortBy_sorted swoS l).imp fun {a b} h => by
    have : ¬ (b.1 < a.1 ∨ (b.1 = a.1 ∧ b.2.1 < a.2.1)) := fun hh => h (cmpS_lt.2 hh)
    omega
theorem right_nil : RightL [] := ⟨Nat.zero_le _, List.Pairwise.nil, fun x hx => by cases hx⟩
theorem new_cases (n : Int) (l : List Span) : (∃ e, e ≠ 0 ∧ newF n l = (none, e, ()) ∧ newW n l = (0, [], e, ())) ∨
    (newF n l = (some (n, sortS l, hideL (sortS l), ()), 0, ()) ∧ newW n l = (n, sortS l, 0, ()) ∧ 0 ≤ n ∧ n ≤ 1099511627776 ∧ l.length ≤ 60 ∧ ∀ m ∈ l, okS n m = true) := by
  unfold newF newW
  by_cases h1 : n < 0 ∨ n > 1099511627776
  · rw [if_pos h1, if_pos h1]
    exact .inl ⟨1, by decide, rfl, rfl⟩
  · rw [if_neg h1, if_neg h1]
    by_cases h2 : (l.length : Int) > 60
    · rw [if_pos h2, if_pos h2]
      exact .inl ⟨5, by decide, rfl, rfl⟩
    · rw [if_neg h2, if_neg h2]
      by_cases h3 : errF n [] l = 0
      · rw [if_pos h3, if_pos h3]
        exact .inr ⟨rfl, rfl, by omega, by omega, by omega, errF_sound [] l h3⟩
      · rw [if_neg h3, if_neg h3]
        exact .inl ⟨_, h3, rfl, rfl⟩
/-- A set and the document's, of one making. -/
def Made (s : Option FSet) (w : WSet) : Prop := ∃ n l, 0 ≤ n ∧ n ≤ 1099511627776 ∧ l.length ≤ 60 ∧ (∀ m ∈ l, okS n m = true) ∧ s = some (n, sortS l, hideL (sortS l), ()) ∧ w = (n, sortS l, 0, ())
theorem isF_no {e : Int} (h : e ≠ 0) : isF none e (0, [], e, ()) = true := isF_iff.2 ⟨rfl, ⟨fun _ => h, fun _ => rfl⟩, .inl rfl⟩
theorem isF_yes (n : Int) (l : List Span) : isF (some (n, l, hideL l, ())) 0 (n, l, 0, ()) = true := isF_iff.2 ⟨rfl, ⟨fun h => (by cases h), fun h => absurd rfl h⟩, .inr ⟨rfl, rfl, rfl⟩⟩
/-- What a making gives: both refuse alike, or both make one set. -/
theorem made_of (n : Int) (l : List Span) : isF (newF n l).1 (newF n l).2.1 (newW n l) = true ∧ ((newF n l).1 = none ∨ ((newF n l).2.1 = 0 ∧ Made (newF n l).1 (newW n l))) ∧
    (allF (newF n l).1).length ≤ 60 ∧ (hidF (newF n l).1).length ≤ 60 ∧ RightL (newW n l).2.1 := by
  rcases new_cases n l with ⟨e, he, h1, h2⟩ | ⟨h1, h2, h3, h4, h5, h6⟩
  · rw [h1, h2]; exact ⟨isF_no he, .inl rfl, Nat.zero_le _, Nat.zero_le _, right_nil⟩
  · rw [h1, h2]
    have hl : (sortS l).length ≤ 60 := by rw [sort_len]; exact h5
    refine ⟨isF_yes n _, .inr ⟨rfl, n, l, h3, h4, h5, h6, rfl, rfl⟩, hl, Nat.le_trans (hideL_len _) hl, sort_right (by omega) fun x hx => (okS_iff.1 (h6 x hx)).2.1⟩
theorem Made.ok {s : Option FSet} {w : WSet} (h : Made s w) : s.isNone = false ∧ okF s ∧ lenF s ≤ 1099511627776 ∧ 0 ≤ lenF s ∧ w.1 = lenF s ∧ w.2.1 = allF s ∧ w.2.2.1 = 0 ∧ hidF s = hideL w.2.1 ∧ RightL w.2.1 ∧ isF s 0 w = true := by
  obtain ⟨n, l, h0, h1, h2, h3, rfl, rfl⟩ := h
  have hl : (sortS l).length ≤ 60 := by rw [sort_len]; exact h2
  exact ⟨rfl, ⟨hl, Nat.le_trans (hideL_len _) hl, fun x hx => h3 x (sort_mem.1 hx)⟩, h1, h0, rfl, rfl, rfl, rfl, sort_right (by omega) fun x hx => (okS_iff.1 (h3 x hx)).2.1, isF_yes n _⟩
theorem is_shift {s : Option FSet} {w : WSet} (h : Made s w) (p : List Chg) : isF (shiftF s p).1 (shiftF s p).2.1 (shiftW w p) = true ∧ ((shiftF s p).1 = none ∨ ((shiftF s p).2.1 = 0 ∧ Made (shiftF s p).1 (shiftW w p))) ∧
    (allF (shiftF s p).1).length ≤ 60 ∧ (hidF (shiftF s p).1).length ≤ 60 ∧ RightL (shiftW w p).2.1 := by
  obtain ⟨_, _, _, _, e1, e2, _⟩ := h.ok
  unfold shiftF shiftW
  by_cases h1 : normal p = false
  · rw [if_pos h1, if_pos h1]; exact ⟨isF_no (by decide), .inl rfl, Nat.zero_le _, Nat.zero_le _, right_nil⟩
  · rw [if_neg h1, if_neg h1, e1, e2]
    by_cases h2 : endOf p > lenF s ∨ w64 (lenF s + delta p) > 1099511627776
    · rw [if_pos h2, if_pos h2]; exact ⟨isF_no (by decide), .inl rfl, Nat.zero_le _, Nat.zero_le _, right_nil⟩
    · rw [if_neg h2, if_neg h2]
      exact made_of _ _
theorem is_remove {s : Option FSet} {w : WSet} (h : Made s w) (x : Span) : isF (removeF s x).1 (removeF s x).2.2.1 (removeW w x) = true ∧ ((removeF s x).1 = none ∨ ((removeF s x).2.2.1 = 0 ∧ Made (removeF s x).1 (removeW w x))) ∧
    (allF (removeF s x).1).length ≤ 60 ∧ (hidF (removeF s x).1).length ≤ 60 ∧ RightL (removeW w x).2.1 := by
  obtain ⟨_, _, _, _, e1, e2, _⟩ := h.ok
  unfold removeF removeW
  rw [e1]
  by_cases h1 : fitsF x (lenF s) = false
  · rw [if_pos h1, if_pos h1]; exact ⟨isF_no (by decide), .inl rfl, Nat.zero_le _, Nat.zero_le _, right_nil⟩
  · rw [if_neg h1, if_neg h1, e2]
    exact made_of _ _
theorem is_add {s : Option FSet} {w : WSet} (h : Made s w) (x : Span) : isF (newF (lenF s) (allF s ++ [x])).1 (newF (lenF s) (allF s ++ [x])).2.1 (newW w.1 (w.2.1 ++ [x])) = true ∧ ((newF (lenF s) (allF s ++ [x])).1 = none ∨ ((newF (lenF s) (allF s ++ [x])).2.1 = 0 ∧ Made (newF (lenF s) (allF s ++ [x])).1 (newW w.1 (w.2.1 ++ [x])))) ∧
    (allF (newF (lenF s) (allF s ++ [x])).1).length ≤ 60 ∧ (hidF (newF (lenF s) (allF s ++ [x])).1).length ≤ 60 ∧ RightL (newW w.1 (w.2.1 ++ [x])).2.1 := by
  obtain ⟨_, _, _, _, e1, e2, _⟩ := h.ok
  rw [e1, e2]
  exact made_of _ _
theorem p8 : vc8 := by
  unfold vc8
  have hn : newF 9 [(3, 6, ()), (6, 8, ()), (1, 4, ())] = (some (9, [(1, 4, ()), (3, 6, ()), (6, 8, ())], [(1, 6, ()), (6, 8, ())], ()), 0, ()) := by
    have hs : sortS [(3, 6, ()), (6, 8, ()), (1, 4, ())] = [(1, 4, ()), (3, 6, ()), (6, 8, ())] := by
      rw [← insAll_sort]
      decide
    unfold newF
    rw [if_neg (by decide), if_neg (by decide), if_pos (by decide), hs]
    rfl
  rintro ⟨⟩ -
  rw [hn]
  decide
end Go.Fr.C15
