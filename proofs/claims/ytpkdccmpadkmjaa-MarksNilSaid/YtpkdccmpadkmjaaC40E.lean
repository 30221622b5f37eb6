/-
  Chapter 40: what the laws rest on. Conditions: none.
-/
import Derived.Test.YtpkdccmpadkmjaaC40X
namespace Go.Fr.C40
open Go Go.Fr Go.Proofs

theorem refMap_before {p b : Int} : ∀ (l : List Chg) (last : Chg) (f : Bool) (s : Int), normFrom last f l = true → p < last.1.2.1 → refMap p b l s = p + s
  | [], _, _, _, _, _ => rfl
  | c :: r, last, f, s, hn, hp => by
    have h := normFrom_cons.1 hn
    have ok := okStep_iff.1 h.1
    rw [refMap, if_neg (by omega), if_neg (by omega)]
    exact refMap_before r c false s h.2 (by omega)
theorem refMap_eq {p b : Int} : ∀ (l : List Chg) (last : Chg) (f : Bool) (s : Int), normFrom last f l = true → mapTo p b l s = refMap p b l s
  | [], _, _, _, _ => rfl
  | c :: r, last, f, s, hn => by
    have h := normFrom_cons.1 hn
    have ok := okStep_iff.1 h.1
    have ih := refMap_eq (p := p) (b := b) r c false (c.2.1.2.1 - c.1.2.1) h.2
    rw [mapTo, refMap]
    by_cases h1 : p < c.1.1
    · rw [if_pos h1, if_neg (by omega), if_neg (by omega), refMap_before r c false s h.2 (by omega)]
    · rw [if_neg h1]
      by_cases h2 : p ≤ c.1.2.1
      · rw [if_pos h2, if_pos (show c.1.1 ≤ p ∧ p ≤ c.1.2.1 from ⟨by omega, h2⟩)]
      · rw [if_neg h2, if_neg (by omega), if_pos (by omega), ih]
theorem new_cases (n : Int) (l : List Mark) : (∃ e, e ≠ 0 ∧ newM n l = (none, e, ()) ∧ newW n l = (0, [], e, ())) ∨
    (newM n l = (some (n, l, ()), 0, ()) ∧ newW n l = (n, l, 0, ()) ∧ 0 ≤ n ∧ n ≤ 1099511627776 ∧ l.length ≤ 200 ∧ ∀ m ∈ l, okMark n m = true) := by
  unfold newM newW
  by_cases h1 : n < 0 ∨ n > 1099511627776
  · rw [if_pos h1, if_pos h1]
    exact .inl ⟨1, by decide, rfl, rfl⟩
  · rw [if_neg h1, if_neg h1]
    by_cases h2 : (l.length : Int) > 200
    · rw [if_pos h2, if_pos h2]
      exact .inl ⟨5, by decide, rfl, rfl⟩
    · rw [if_neg h2, if_neg h2]
      by_cases h3 : l.all (okMark n) = true
      · rw [if_pos h3, if_pos h3]
        exact .inr ⟨rfl, rfl, by omega, by omega, by omega, fun m hm => List.all_eq_true.1 h3 m hm⟩
      · rw [if_neg h3, if_neg h3]
        exact .inl ⟨1, by decide, rfl, rfl⟩
theorem isM_no {e : Int} (h : e ≠ 0) : isM none e (0, [], e, ()) = true := isM_iff.2 ⟨rfl, ⟨fun _ => h, fun _ => rfl⟩, .inl rfl⟩
theorem isM_yes (n : Int) (l : List Mark) : isM (some (n, l, ())) 0 (n, l, 0, ()) = true := isM_iff.2 ⟨rfl, ⟨fun h => (by cases h), fun h => absurd rfl h⟩, .inr rfl⟩
theorem isM_new (n : Int) (l : List Mark) : isM (newM n l).1 (newM n l).2.1 (newW n l) = true := by
  rcases new_cases n l with ⟨e, he, h1, h2⟩ | ⟨h1, h2, _⟩
  · rw [h1, h2]; exact isM_no he
  · rw [h1, h2]; exact isM_yes n l
theorem isM_shift (n : Int) (l : List Mark) (p : List Chg) : isM (shiftM (some (n, l, ())) p).1 (shiftM (some (n, l, ())) p).2.1 (shiftW (n, l, 0, ()) p) = true := by
  unfold shiftM shiftW
  by_cases h1 : normal p = false
  · rw [if_pos h1, if_pos h1]; exact isM_no (by decide)
  · rw [if_neg h1, if_neg h1]
    by_cases h2 : endOf p > n ∨ w64 (n + delta p) > 1099511627776
    · rw [if_pos (show endOf p > sizeM (some (n, l, ())) ∨ w64 (sizeM (some (n, l, ())) + delta p) > 1099511627776 from h2), if_pos h2]; exact isM_no (by decide)
    · rw [if_neg (show ¬ (endOf p > sizeM (some (n, l, ())) ∨ w64 (sizeM (some (n, l, ())) + delta p) > 1099511627776) from h2), if_neg h2]
      exact isM_new _ _

/-! ### Edges -/
def rangeI : Int → Nat → List Int
  | _, 0 => []
  | a, m + 1 => a :: rangeI (a + 1) m
theorem rangeI_eq : ∀ (m : Nat) (a : Nat), (List.range' a m).map (fun (i : Nat) => ((i : Nat) : Int)) = rangeI (a : Int) m
  | 0, _ => rfl
  | m + 1, a => by
    have ih := rangeI_eq m (a + 1)
    rw [List.range'_succ, List.map_cons, rangeI, ih]
    rfl
theorem ups_dropRuns (f : Int → Int) : ∀ (r : List Int) (p : Int), ups f (f p) (dropRuns p r) = ups f (f p) r
  | [], _ => rfl
  | b :: r, p => by
    have ih := ups_dropRuns f r b
    by_cases hb : b = p
    · subst hb
      simp only [dropRuns, if_true, ups]
      exact ih
    · simp only [dropRuns, if_neg hb, ups]
      split
      · rename_i h
        rw [h] at ih
        exact ih
      · rw [ih]
theorem ups_compact (f : Int → Int) (last : Int) : ∀ l : List Int, ups f last (compactL l) = ups f last l
  | [] => rfl
  | a :: r => by
    have h := ups_dropRuns f r a
    simp only [compactL, ups]
    split
    · rename_i e
      rw [e] at h
      exact h
    · rw [h]
theorem ups_range (f : Int → Int) : ∀ (N : Nat) (P : List Int) (a : Int) (m : Nat) (last : Int), P.length + m = N → P.Pairwise (· ≤ ·) → (∀ x ∈ P, a ≤ x ∧ x < a + (m : Int)) →
    (∀ k, a ≤ k → k < a + (m : Int) → k ∉ P → f k = if k = a then last else f (k - 1)) → ups f last P = ups f last (rangeI a m) := by
  intro N
  induction N with
  | zero =>
    intro P a m last hN _ _ _
    have h1 : P = [] := List.eq_nil_of_length_eq_zero (by omega)
    have h2 : m = 0 := by omega
    subst h1 h2
    rfl
  | succ N ih =>
    intro P a m last hN hs hb hc
    cases m with
    | zero =>
      cases P with
      | nil => rfl
      | cons x P => have := hb x (List.mem_cons_self ..); simp at this; omega
    | succ m =>
      have other : a ∉ P → ups f last P = ups f last (rangeI a (m + 1)) := by
        intro ha
        have h0 := hc a (Int.le_refl _) (by omega) ha
        rw [if_pos rfl] at h0
        rw [rangeI, ups, if_pos h0]
        refine ih P (a + 1) m last (by omega) hs (fun x hx => ?_) (fun k h1 h2 h3 => ?_)
        · have h1 := hb x hx
          have h2 : x ≠ a := fun e => ha (e ▸ hx)
          omega
        · have h4 := hc k (by omega) (by omega) h3
          rw [if_neg (by omega)] at h4
          split
          · rename_i e
            rw [h4, e, show a + 1 - 1 = a by omega, h0]
          · exact h4
      cases P with
      | nil => exact other (by simp)
      | cons x P =>
        by_cases hx : x = a
        · subst hx
          have hs' := List.pairwise_cons.1 hs
          by_cases hl : f x = last
          · rw [ups, if_pos hl]
            refine ih P x (m + 1) last (by simp at hN; omega) hs'.2 (fun y hy => hb y (List.mem_cons_of_mem _ hy)) (fun k h1 h2 h3 => ?_)
            by_cases hk : k = x
            · rw [if_pos hk, hk, hl]
            · exact hc k h1 h2 (fun hm => by rcases List.mem_cons.1 hm with e | e; exact hk e; exact h3 e)
          · rw [ups, if_neg hl, rangeI, ups, if_neg hl]
            congr 1
            have h := ih P x (m + 1) (f x) (by simp at hN; omega) hs'.2 (fun y hy => hb y (List.mem_cons_of_mem _ hy)) (fun k h1 h2 h3 => by
              by_cases hk : k = x
              · rw [if_pos hk, hk]
              · have := hc k h1 h2 (fun hm => by rcases List.mem_cons.1 hm with e | e; exact hk e; exact h3 e)
                rw [if_neg hk] at this ⊢
                exact this)
            rw [h, rangeI, ups, if_pos rfl]
        · refine other (fun hm => ?_)
          rcases List.mem_cons.1 hm with e | e
          · exact hx e.symm
          · have h1 := (List.pairwise_cons.1 hs).1 a e
            have h2 := hb x (List.mem_cons_self ..)
            omega
theorem at_same {l : List Mark} {k : Int} (h : k ∉ points l) : atL l k = atL l (k - 1) := by
  unfold atL
  have : ∀ (l : List Mark) (s : Int × Int), k ∉ points l → l.foldl (atStep k) s = l.foldl (atStep (k - 1)) s := by
    intro l
    induction l with
    | nil => intro s _; rfl
    | cons m l ih =>
      intro s h
      have hp : points (m :: l) = [m.1, m.2.1] ++ points l := by simp [points]
      rw [hp] at h
      simp only [List.cons_append, List.nil_append, List.mem_cons, not_or] at h
      obtain ⟨h1, h2, h3⟩ := h
      simp only [List.foldl_cons]
      have he : atStep k s m = atStep (k - 1) s m := by
        unfold atStep
        by_cases hc : k ≥ m.1 ∧ k < m.2.1 ∧ (s.1 = 0 ∨ m.2.2.2.1 ≥ s.2)
        · rw [if_pos hc, if_pos ⟨by omega, by omega, hc.2.2⟩]
        · rw [if_neg hc, if_neg (fun hd => hc ⟨by omega, by omega, hd.2.2⟩)]
      rw [he]
      exact ih _ h3
  rw [this l _ h]
theorem at_neg {l : List Mark} {n : Int} (h : ∀ m ∈ l, okMark n m = true) : atL l (-1) = 0 := by
  unfold atL
  have : ∀ (l : List Mark), (∀ m ∈ l, okMark n m = true) → l.foldl (atStep (-1)) (0, 0) = (0, 0) := by
    intro l
    induction l with
    | nil => intro _; rfl
    | cons m l ih =>
      intro h
      have h1 := okMark_iff.1 (h m (List.mem_cons_self ..))
      simp only [List.foldl_cons]
      rw [show atStep (-1) (0, 0) m = (0, 0) by unfold atStep; rw [if_neg (by omega)]]
      exact ih fun m hm => h m (List.mem_cons_of_mem _ hm)
  rw [this l h]
theorem points_in {l : List Mark} {n : Int} (h : ∀ m ∈ l, okMark n m = true) : ∀ x ∈ points l, 0 ≤ x ∧ x ≤ n := by
  intro x hx
  simp only [points, List.mem_flatMap] at hx
  obtain ⟨m, hm, hx⟩ := hx
  have h1 := okMark_iff.1 (h m hm)
  simp only [List.mem_cons, List.not_mem_nil, or_false] at hx
  rcases hx with rfl | rfl <;> omega
theorem edges_eq {n : Int} {l : List Mark} (h0 : 0 ≤ n) (h : ∀ m ∈ l, okMark n m = true) : edgesL l = refEdges n l := by
  unfold edgesL refEdges
  rw [ups_compact]
  have hr : (List.range (n + 1).toNat).map (fun (i : Nat) => ((i : Nat) : Int)) = rangeI 0 (n + 1).toNat := by
    rw [List.range_eq_range']
    exact rangeI_eq _ 0
  rw [hr]
  have hmem : ∀ x, x ∈ sortL (points l) ↔ x ∈ points l := fun x => (List.mergeSort_perm (points l) _).mem_iff
  refine ups_range (atL l) _ _ 0 _ 0 rfl ?_ (fun x hx => ?_) (fun k h1 h2 h3 => ?_)
  · have := List.pairwise_mergeSort (le := fun x y : Int => decide (x ≤ y)) (fun a b c h1 h2 => by simp at *; omega) (fun a b => by simp; omega) (points l)
    exact this.imp fun h => by simpa using h
  · have := points_in h x ((hmem x).1 hx)
    omega
  · have h4 := at_same (l := l) (k := k) (fun hm => h3 ((hmem k).2 hm))
    rw [h4]
    split
    · rename_i e
      subst e
      exact at_neg h
    · rfl

/-! ### What is painted -/
theorem runs_apart (l : List Int) : ∀ i r s, (runsL l)[i]? = some r → (runsL l)[i + 1]? = some s → r.1 ≠ s.1 := by
  have key : ∀ k, k ≤ l.length → ∀ i r s, (runsL (l.take k))[i]? = some r → (runsL (l.take k))[i + 1]? = some s → r.1 ≠ s.1 := by
    intro k
    induction k with
    | zero => intro _ i r s h; cases h
    | succ k ih =>
      intro hk i r s h1 h2
      have ih := ih (by omega)
      rw [runs_take (by omega)] at h1 h2
      generalize runsL (l.take k) = out at *
      generalize l.getD k 0 = x at *
      unfold addRun at h1 h2
      cases hl : out.getLast? with
      | none =>
        rw [hl] at h2
        simp at h2
      | some q =>
        rw [hl] at h1 h2
        simp only at h1 h2
        have hout : 0 < out.length := by
          cases out with
          | nil => cases hl
          | cons a b => simp
        have hq : out[out.length - 1]? = some q := by rw [← List.getLast?_eq_getElem?]; exact hl
        split at h1
        · rename_i he
          rw [if_pos he] at h2
          have e1 : ∀ (j : Nat) (t : Run), (out.dropLast ++ [(x, q.2.1 + 1, ())])[j]? = some t → ∃ t' : Run, out[j]? = some t' ∧ t'.1 = (t : Run).1 := by
            intro j t ht
            by_cases hj : j < out.length - 1
            · rw [List.getElem?_append_left (by simpa using hj), List.getElem?_dropLast, if_pos hj] at ht
              exact ⟨t, ht, rfl⟩
            · rw [List.getElem?_append_right (by simp; omega)] at ht
              have hj2 : j - out.dropLast.length = 0 := by
                have := (List.getElem?_eq_some_iff.1 ht).1
                simpa using this
              rw [hj2] at ht
              simp at ht
              have : j = out.length - 1 := by simp at hj2; omega
              rw [this]
              exact ⟨q, hq, by rw [← ht]; exact he⟩
          obtain ⟨r', a1, a2⟩ := e1 i r h1
          obtain ⟨s', b1, b2⟩ := e1 (i + 1) s h2
          rw [← a2, ← b2]
          exact ih i r' s' a1 b1
        · rename_i he
          rw [if_neg he] at h2
          by_cases hi : i + 1 < out.length
          · rw [List.getElem?_append_left (by omega)] at h1 h2
            exact ih i r s h1 h2
          · have hlt := (List.getElem?_eq_some_iff.1 h2).1
            rw [List.length_append, List.length_singleton] at hlt
            have hi' : i = out.length - 1 := by omega
            rw [List.getElem?_append_left (by omega), hi', hq] at h1
            rw [List.getElem?_append_right (by omega), show i + 1 - out.length = 0 by omega] at h2
            simp at h1 h2
            rw [← h1, ← h2]
            exact he
  have := key l.length (Nat.le_refl _)
  rwa [List.take_length] at this
def total (l : List Run) : Int := (l.map fun r => r.2.1).sum
theorem total_snoc (l : List Run) (r : Run) : total (l ++ [r]) = total l + r.2.1 := by simp [total]
theorem total_add (out : List Run) (x : Int) : total (addRun out x) = total out + 1 := by
  unfold addRun
  cases hl : out.getLast? with
  | none =>
    rw [List.getLast?_eq_none_iff.1 hl]
    rfl
  | some q =>
    simp only
    have hne : out ≠ [] := fun e => by rw [e] at hl; cases hl
    have ho : out = out.dropLast ++ [q] := by
      have := List.dropLast_concat_getLast hne
      rw [List.getLast?_eq_some_getLast hne] at hl
      injection hl with hl
      rw [hl] at this
      exact this.symm
    split
    · rw [total_snoc]
      conv => rhs; rw [ho, total_snoc]
      show total out.dropLast + (q.2.1 + 1) = _
      omega
    · rw [total_snoc]
theorem total_runs (l : List Int) : total (runsL l) = l.length := by
  have key : ∀ k, k ≤ l.length → total (runsL (l.take k)) = k := by
    intro k
    induction k with
    | zero => intro _; rfl
    | succ k ih =>
      intro hk
      rw [runs_take (by omega), total_add, ih (by omega)]
      rfl
  have := key l.length (Nat.le_refl _)
  rwa [List.take_length] at this
theorem runs_bound (l : List Int) : ∀ r ∈ runsL l, 0 ≤ r.2.1 ∧ r.2.1 ≤ (l.length : Int) := by
  have key : ∀ k, k ≤ l.length → ∀ r ∈ runsL (l.take k), 0 ≤ r.2.1 ∧ r.2.1 ≤ (k : Int) := by
    intro k
    induction k with
    | zero => intro _ r h; cases h
    | succ k ih =>
      intro hk
      rw [runs_take (by omega)]
      exact addRun_b (by omega) (ih (by omega))
  have := key l.length (Nat.le_refl _)
  rwa [List.take_length] at this
theorem styles_zero (f : Int → Int) (h : ∀ x, f x = 0) : ∀ l : List Cell, styles f 0 l = List.replicate l.length 0
  | [] => rfl
  | c :: r => by
    have : sty1 f 0 c = 0 := by unfold sty1; split; exact h _; split <;> rfl
    rw [styles_cons, this, styles_zero f h r]
    rfl
theorem runs_zero : ∀ n : Nat, runsL (List.replicate (n + 1) 0) = [(0, (n : Int) + 1, ())]
  | 0 => rfl
  | n + 1 => by
    have ih := runs_zero n
    rw [List.replicate_succ', runs_snoc, ih]
    exact addRun_same [] 0 ((n : Int) + 1)
end Go.Fr.C40
