/-
  Chapter 04: what the sums are, in plain terms. Conditions: none.
-/
import Derived.Test.YtkgmpnadgilpjaaC4c
namespace Go.Fr.C4
open Go Go.Fr Go.Proofs

theorem w64_eq (n : Int) : w64 n = (n + 9223372036854775808) % 18446744073709551616 - 9223372036854775808 := by
  have e : IntKind.i64.wrap n = if n % 18446744073709551616 ≥ 9223372036854775808 then n % 18446744073709551616 - 18446744073709551616 else n % 18446744073709551616 := by
    unfold IntKind.wrap
    have hb : IntKind.i64.bits = 64 := rfl
    have hs : IntKind.i64.signed = true := rfl
    rw [hb, hs]
    simp
  unfold w64
  rw [e]
  split <;> omega
theorem w64_assoc (a b c : Int) : w64 (w64 (a + b) + c) = w64 (a + w64 (b + c)) := by
  simp only [w64_eq]
  omega
theorem w64_w64 (a : Int) : w64 (w64 a) = w64 a := by
  simp only [w64_eq]
  omega
theorem w64_id {n : Int} (h0 : -9223372036854775808 ≤ n) (h1 : n ≤ 9223372036854775807) : w64 n = n := wrap_id h0 h1

theorem within_iff {n : Int} : within n = true ↔ 0 ≤ n ∧ n ≤ 1099511627776 := by simp [within]
theorem rightI_iff {i : It} : rightI i = true ↔ (0 ≤ i.2.2.1.1 ∧ i.2.2.1.1 ≤ 1099511627776) ∧ (0 ≤ i.2.2.1.2.1 ∧ i.2.2.1.2.1 ≤ 1099511627776) ∧ (0 ≤ i.2.2.1.2.2.1 ∧ i.2.2.1.2.2.1 ≤ 1099511627776) ∧ (0 ≤ i.2.2.2.1 ∧ i.2.2.2.1 ≤ 1099511627776) := by
  simp only [rightI, Bool.and_eq_true, within_iff]
  constructor
  · rintro ⟨⟨⟨a, b⟩, c⟩, d⟩; exact ⟨a, b, c, d⟩
  · rintro ⟨a, b, c, d⟩; exact ⟨⟨⟨a, b⟩, c⟩, d⟩

abbrev foldI (l : List It) (s : S) : S := l.foldl (fun s i => add s (of i)) s

/-- Sums that may be. -/
structure Valid (n : Int) (s : S) : Prop where
  n0 : 0 ≤ s.1
  n1 : s.1 ≤ n
  a0 : 0 ≤ s.2.2.2.1
  a1 : s.2.2.2.1 ≤ s.1
  none : s.1 = 0 → s.2.2.1 = 0 ∧ s.2.2.2.1 = 0
  d0 : w64 s.2.1.1 = s.2.1.1
  d1 : w64 s.2.1.2.1 = s.2.1.2.1
  d2 : w64 s.2.1.2.2.1 = s.2.1.2.2.1

theorem valid_sum0 : Valid 0 sum0 := ⟨by decide, by decide, by decide, by decide, fun _ => ⟨rfl, rfl⟩, by decide, by decide, by decide⟩

theorem gt_iff {a b : Int} : decide (a > b) = true ↔ b < a := by simp

theorem add_eq (a b : S) : add a b = (w64 (a.1 + b.1), (w64 (a.2.1.1 + b.2.1.1), w64 (a.2.1.2.1 + b.2.1.2.1), w64 (a.2.1.2.2.1 + b.2.1.2.2.1), ()),
   if 0 < b.1 ∧ (a.1 = 0 ∨ a.2.2.1 < b.2.2.1) then b.2.2.1 else a.2.2.1, if 0 < b.1 ∧ (a.1 = 0 ∨ a.2.2.1 < b.2.2.1) then w64 (a.1 + b.2.2.2.1) else a.2.2.2.1, ()) := by
  have : (decide (b.1 > 0) && ((a.1 == 0) || decide (b.2.2.1 > a.2.2.1))) = decide (0 < b.1 ∧ (a.1 = 0 ∨ a.2.2.1 < b.2.2.1)) := by
    rw [Bool.eq_iff_iff]
    simp
  simp only [add, this]
  simp only [decide_eq_true_eq]

theorem ext31 {a b : S} (h1 : a.1 = b.1) (h2 : a.2.1.1 = b.2.1.1) (h3 : a.2.1.2.1 = b.2.1.2.1) (h4 : a.2.1.2.2.1 = b.2.1.2.2.1) (h5 : a.2.2.1 = b.2.2.1) (h6 : a.2.2.2.1 = b.2.2.2.1) : a = b := by
  obtain ⟨a1, ⟨a2, a3, a4, _⟩, a5, a6, _⟩ := a
  obtain ⟨b1, ⟨b2, b3, b4, _⟩, b5, b6, _⟩ := b
  simp only at h1 h2 h3 h4 h5 h6
  subst h1 h2 h3 h4 h5 h6
  rfl

theorem valid_add {n m : Int} {a b : S} (ha : Valid n a) (hb : Valid m b) (hn : n + m ≤ 1000000) : Valid (n + m) (add a b) := by
  obtain ⟨a1, a2, a3, a4, a5, _, _, _⟩ := ha
  obtain ⟨b1, b2, b3, b4, b5, _, _, _⟩ := hb
  rw [add_eq]
  have e1 : w64 (a.1 + b.1) = a.1 + b.1 := w64_id (by omega) (by omega)
  have e2 : w64 (a.1 + b.2.2.2.1) = a.1 + b.2.2.2.1 := w64_id (by omega) (by omega)
  refine ⟨?_, ?_, ?_, ?_, ?_, w64_w64 _, w64_w64 _, w64_w64 _⟩
  all_goals simp only [e1, e2]
  · omega
  · omega
  · split <;> omega
  · split <;> omega
  · intro h
    have := a5 (by omega)
    have h0 : b.1 = 0 := by omega
    rw [if_neg (by omega), if_neg (by omega)]
    exact this

theorem max_at {aN aM aA bN bM bA cN cM cA : Int} (ha : 0 ≤ aN) (hb : 0 ≤ bN) (hc : 0 ≤ cN) (a5 : aN = 0 → aM = 0 ∧ aA = 0) (b5 : bN = 0 → bM = 0 ∧ bA = 0) :
    ((if 0 < cN ∧ (aN + bN = 0 ∨ (if 0 < bN ∧ (aN = 0 ∨ aM < bM) then bM else aM) < cM) then cM else if 0 < bN ∧ (aN = 0 ∨ aM < bM) then bM else aM) =
      if 0 < bN + cN ∧ (aN = 0 ∨ aM < if 0 < cN ∧ (bN = 0 ∨ bM < cM) then cM else bM) then if 0 < cN ∧ (bN = 0 ∨ bM < cM) then cM else bM else aM) ∧
    ((if 0 < cN ∧ (aN + bN = 0 ∨ (if 0 < bN ∧ (aN = 0 ∨ aM < bM) then bM else aM) < cM) then aN + bN + cA else if 0 < bN ∧ (aN = 0 ∨ aM < bM) then aN + bA else aA) =
      if 0 < bN + cN ∧ (aN = 0 ∨ aM < if 0 < cN ∧ (bN = 0 ∨ bM < cM) then cM else bM) then aN + (if 0 < cN ∧ (bN = 0 ∨ bM < cM) then bN + cA else bA) else aA) := by
  by_cases hc0 : cN = 0
  · subst hc0
    simp
  · have hc1 : 0 < cN := by omega
    by_cases hb0 : bN = 0
    · subst hb0
      simp [hc1]
    · have hb1 : 0 < bN := by omega
      have h2 : 0 < bN + cN := by omega
      by_cases ha0 : aN = 0
      · subst ha0
        obtain ⟨rfl, rfl⟩ := a5 rfl
        simp only [hb1, hc1, h2, hb0, true_and, true_or, if_true, false_or, Int.zero_add]
      · have h3 : ¬ aN + bN = 0 := by omega
        simp only [hb1, hc1, h2, hb0, ha0, h3, true_and, false_or]
        rcases Decidable.em (aM < bM) with p | p <;> rcases Decidable.em (bM < cM) with q | q
        all_goals (first | simp only [if_pos p] | simp only [if_neg p])
        all_goals (first | simp only [if_pos q] | simp only [if_neg q])
        all_goals (refine ⟨?_, ?_⟩ <;> (repeat' split) <;> first | trivial | omega)
theorem assoc_add {n m k : Int} {a b c : S} (ha : Valid n a) (hb : Valid m b) (hc : Valid k c) (hn : n + m + k ≤ 1000000) : add (add a b) c = add a (add b c) := by
  obtain ⟨a1, a2, a3, a4, a5, _, _, _⟩ := ha
  obtain ⟨b1, b2, b3, b4, b5, _, _, _⟩ := hb
  obtain ⟨c1, c2, c3, c4, c5, _, _, _⟩ := hc
  have e1 : w64 (a.1 + b.1) = a.1 + b.1 := w64_id (by omega) (by omega)
  have e2 : w64 (a.1 + b.2.2.2.1) = a.1 + b.2.2.2.1 := w64_id (by omega) (by omega)
  have e3 : w64 (b.1 + c.1) = b.1 + c.1 := w64_id (by omega) (by omega)
  have e4 : w64 (b.1 + c.2.2.2.1) = b.1 + c.2.2.2.1 := w64_id (by omega) (by omega)
  have e5 : w64 (a.1 + b.1 + c.2.2.2.1) = a.1 + b.1 + c.2.2.2.1 := w64_id (by omega) (by omega)
  have e6 : w64 (a.1 + (b.1 + c.2.2.2.1)) = a.1 + b.1 + c.2.2.2.1 := by rw [w64_id (by omega) (by omega)]; omega
  have e7 : w64 (a.1 + b.1 + c.1) = a.1 + b.1 + c.1 := w64_id (by omega) (by omega)
  have e8 : w64 (a.1 + (b.1 + c.1)) = a.1 + b.1 + c.1 := by rw [w64_id (by omega) (by omega)]; omega
  have key : ∀ (p q : S), add a b = p → add b c = q → add p c = add a q := by
    intro p q hp hq
    have hpN : p.1 = a.1 + b.1 := by rw [← hp, add_eq]; exact e1
    have hqN : q.1 = b.1 + c.1 := by rw [← hq, add_eq]; exact e3
    have hpM : p.2.2.1 = if 0 < b.1 ∧ (a.1 = 0 ∨ a.2.2.1 < b.2.2.1) then b.2.2.1 else a.2.2.1 := by rw [← hp, add_eq]
    have hqM : q.2.2.1 = if 0 < c.1 ∧ (b.1 = 0 ∨ b.2.2.1 < c.2.2.1) then c.2.2.1 else b.2.2.1 := by rw [← hq, add_eq]
    have hpA : p.2.2.2.1 = if 0 < b.1 ∧ (a.1 = 0 ∨ a.2.2.1 < b.2.2.1) then a.1 + b.2.2.2.1 else a.2.2.2.1 := by rw [← hp, add_eq]; simp only [e2]
    have hqA : q.2.2.2.1 = if 0 < c.1 ∧ (b.1 = 0 ∨ b.2.2.1 < c.2.2.1) then b.1 + c.2.2.2.1 else b.2.2.2.1 := by rw [← hq, add_eq]; simp only [e4]
    have hp0 : p.2.1.1 = w64 (a.2.1.1 + b.2.1.1) := by rw [← hp, add_eq]
    have hp1 : p.2.1.2.1 = w64 (a.2.1.2.1 + b.2.1.2.1) := by rw [← hp, add_eq]
    have hp2 : p.2.1.2.2.1 = w64 (a.2.1.2.2.1 + b.2.1.2.2.1) := by rw [← hp, add_eq]
    have hq0 : q.2.1.1 = w64 (b.2.1.1 + c.2.1.1) := by rw [← hq, add_eq]
    have hq1 : q.2.1.2.1 = w64 (b.2.1.2.1 + c.2.1.2.1) := by rw [← hq, add_eq]
    have hq2 : q.2.1.2.2.1 = w64 (b.2.1.2.2.1 + c.2.1.2.2.1) := by rw [← hq, add_eq]
    have hqB : 0 ≤ q.2.2.2.1 ∧ q.2.2.2.1 ≤ q.1 := by rw [hqA, hqN]; split <;> omega
    have e9 : w64 (p.1 + c.1) = p.1 + c.1 := w64_id (by omega) (by omega)
    have e10 : w64 (a.1 + q.1) = a.1 + q.1 := w64_id (by omega) (by omega)
    have e11 : w64 (p.1 + c.2.2.2.1) = p.1 + c.2.2.2.1 := w64_id (by omega) (by omega)
    have e12 : w64 (a.1 + q.2.2.2.1) = a.1 + q.2.2.2.1 := w64_id (by omega) (by omega)
    rw [add_eq p c, add_eq a q]
    refine ext31 ?_ ?_ ?_ ?_ ?_ ?_
    · simp only [e9, e10]
      omega
    · simp only [hp0, hq0]
      exact w64_assoc _ _ _
    · simp only [hp1, hq1]
      exact w64_assoc _ _ _
    · simp only [hp2, hq2]
      exact w64_assoc _ _ _
    · simp only [hpN, hqN, hpM, hqM]
      exact (max_at (cA := 0) a1 b1 c1 a5 b5).1
    · simp only [e11, e12]
      simp only [hpN, hqN, hpM, hqM, hpA, hqA]
      exact (max_at a1 b1 c1 a5 b5).2
  exact key _ _ rfl rfl

theorem all_append_fold {a b : List It} : allI (a ++ b) = foldI b (allI a) := by
  simp only [allI, foldI, List.foldl_append]
theorem valid_of {i : It} (h : rightI i = true) : Valid 1 (of i) := by
  obtain ⟨⟨h1, h2⟩, ⟨h3, h4⟩, ⟨h5, h6⟩, _⟩ := rightI_iff.1 h
  exact ⟨show (0 : Int) ≤ 1 by decide, show (1 : Int) ≤ 1 by decide, show (0 : Int) ≤ 0 by decide, show (0 : Int) ≤ 1 by decide, fun h => absurd h (show ¬ (1 : Int) = 0 by decide), w64_id (show _ ≤ i.2.2.1.1 by omega) (show i.2.2.1.1 ≤ _ by omega), w64_id (show _ ≤ i.2.2.1.2.1 by omega) (show i.2.2.1.2.1 ≤ _ by omega), w64_id (show _ ≤ i.2.2.1.2.2.1 by omega) (show i.2.2.1.2.2.1 ≤ _ by omega)⟩
theorem valid_fold : (l : List It) → (l.all rightI = true) → (s : S) → (n : Int) → Valid n s → n + l.length ≤ 1000000 → Valid (n + l.length) (foldI l s)
  | [], _, s, n, h, _ => by simpa [foldI] using h
  | x :: l, hr, s, n, h, hn => by
    simp only [List.all_cons, Bool.and_eq_true] at hr
    simp only [List.length_cons] at hn
    have := valid_fold l hr.2 (add s (of x)) (n + 1) (valid_add h (valid_of hr.1) (by omega)) (by omega)
    have e : n + 1 + (l.length : Int) = n + ((x :: l).length : Int) := by simp only [List.length_cons]; omega
    rw [e] at this
    exact this
theorem valid_all {l : List It} (hr : l.all rightI = true) (hl : l.length ≤ 1000) : Valid 1000 (allI l) := by
  obtain ⟨a, b, c, d, e, f, g, h⟩ := valid_fold l hr sum0 0 valid_sum0 (by omega)
  exact ⟨a, Int.le_trans b (by omega), c, d, e, f, g, h⟩
theorem add_zero {n : Int} {s : S} (h : Valid n s) (hn : n ≤ 1000000) : add s sum0 = s := by
  obtain ⟨a1, a2, a3, a4, a5, d0, d1, d2⟩ := h
  rw [add_eq]
  refine ext31 ?_ ?_ ?_ ?_ ?_ ?_
  · show w64 (s.1 + 0) = s.1
    rw [Int.add_zero]
    exact w64_id (by omega) (by omega)
  · show w64 (s.2.1.1 + 0) = _
    rw [Int.add_zero]
    exact d0
  · show w64 (s.2.1.2.1 + 0) = _
    rw [Int.add_zero]
    exact d1
  · show w64 (s.2.1.2.2.1 + 0) = _
    rw [Int.add_zero]
    exact d2
  · simp [sum0]
  · simp [sum0]
theorem zero_add {n : Int} {s : S} (h : Valid n s) (hn : n ≤ 1000000) : add sum0 s = s := by
  obtain ⟨a1, a2, a3, a4, a5, d0, d1, d2⟩ := h
  rw [add_eq]
  refine ext31 ?_ ?_ ?_ ?_ ?_ ?_
  · show w64 (0 + s.1) = s.1
    rw [Int.zero_add]
    exact w64_id (by omega) (by omega)
  · show w64 (0 + s.2.1.1) = _
    rw [Int.zero_add]
    exact d0
  · show w64 (0 + s.2.1.2.1) = _
    rw [Int.zero_add]
    exact d1
  · show w64 (0 + s.2.1.2.2.1) = _
    rw [Int.zero_add]
    exact d2
  · by_cases hz : 0 < s.1
    · simp [sum0, hz]
    · have := a5 (by omega)
      simp [sum0, hz, this.1]
  · by_cases hz : 0 < s.1
    · simp only [sum0, hz, true_and, true_or, if_true, Int.zero_add]
      exact w64_id (by omega) (by omega)
    · have := a5 (by omega)
      simp [sum0, hz, this.2]
theorem add_fold : (l : List It) → (l.all rightI = true) → (x s : S) → (n m : Int) → Valid n x → Valid m s → n + m + l.length ≤ 1000000 → add x (foldI l s) = foldI l (add x s)
  | [], _, x, s, n, m, _, _, _ => rfl
  | i :: l, hr, x, s, n, m, hx, hs, hn => by
    simp only [List.all_cons, Bool.and_eq_true] at hr
    simp only [List.length_cons] at hn
    have := hx.n0
    have := hx.n1
    show add x (foldI l (add s (of i))) = foldI l (add (add x s) (of i))
    rw [add_fold l hr.2 x (add s (of i)) n (m + 1) hx (valid_add hs (valid_of hr.1) (by omega)) (by omega)]
    rw [assoc_add hx hs (valid_of hr.1) (by omega)]
theorem right_iff {l : List It} : right l = true ↔ l.length ≤ 1000 ∧ l.all rightI = true := by simp [right]
/-- The sum of items and others. -/
theorem all_adds {a b : List It} (ha : right a = true) (hb : right b = true) : add (allI a) (allI b) = allI (a ++ b) := by
  obtain ⟨a1, a2⟩ := right_iff.1 ha
  obtain ⟨b1, b2⟩ := right_iff.1 hb
  have hv := valid_all a2 a1
  rw [all_append_fold]
  have := add_fold b b2 (allI a) sum0 1000 0 hv valid_sum0 (by omega)
  rw [add_zero hv (by omega)] at this
  exact this
theorem all_brackets {a b c : List It} (ha : right a = true) (hb : right b = true) (hc : right c = true) : add (add (allI a) (allI b)) (allI c) = add (allI a) (add (allI b) (allI c)) := by
  obtain ⟨a1, a2⟩ := right_iff.1 ha
  obtain ⟨b1, b2⟩ := right_iff.1 hb
  obtain ⟨c1, c2⟩ := right_iff.1 hc
  exact assoc_add (valid_all a2 a1) (valid_all b2 b1) (valid_all c2 c1) (by omega)

/-- Both ways of summing go together. -/
theorem both_ways {l : List It} (hr : l.all rightI = true) (hl : l.length ≤ 1000) : (i : Nat) → i ≤ l.length →
    (foldI (l.take i) sum0).1 = i ∧ (allRn l i).1 = l.length ∧ (foldI (l.take i) sum0).2 = (allRn l i).2 ∧ (i = 0 → (allRn l i).2.2.1 = 0 ∧ (allRn l i).2.2.2.1 = 0)
  | 0, _ => ⟨rfl, rfl, rfl, fun _ => ⟨rfl, rfl⟩⟩
  | i + 1, hi => by
    obtain ⟨h1, h2, h3, h4⟩ := both_ways hr hl i (by omega)
    have hlt : i < l.length := hi
    have hx : rightI l[i] = true := List.all_eq_true.1 hr _ (List.getElem_mem hlt)
    obtain ⟨_, _, _, hm⟩ := rightI_iff.1 hx
    have e : foldI (l.take (i + 1)) sum0 = add (foldI (l.take i) sum0) (of l[i]) := foldl_take_succ (f := fun s i => add s (of i)) hlt
    have e2 : allRn l (i + 1) = stepR (allRn l i) i l[i] := by
      show stepR (allRn l i) i (l.getD i _) = _
      rw [getD_of _ hlt]
    rw [e, e2, add_eq]
    generalize foldI (l.take i) sum0 = A at *
    generalize allRn l i = R at *
    have w1 : w64 (A.1 + 1) = A.1 + 1 := w64_id (by omega) (by omega)
    have w2 : w64 (A.1 + 0) = A.1 := by rw [Int.add_zero]; exact w64_id (by omega) (by omega)
    have o1 : (of l[i]).1 = 1 := rfl
    have o2 : (of l[i]).2.2.1 = l[i].2.2.2.1 := rfl
    have o3 : (of l[i]).2.2.2.1 = 0 := rfl
    refine ⟨?_, ?_, ?_, fun h => absurd h (by omega)⟩
    · show w64 (A.1 + 1) = _
      rw [w1]
      omega
    · exact h2
    · obtain ⟨A1, ⟨A2, A3, A4, _⟩, A5, A6, _⟩ := A
      obtain ⟨R1, ⟨R2, R3, R4, _⟩, R5, R6, _⟩ := R
      simp only [Prod.mk.injEq] at h3
      obtain ⟨⟨rfl, rfl, rfl, _⟩, rfl, rfl, _⟩ := h3
      simp only [stepR, o1, o2, o3, Prod.mk.injEq, and_true, gt_iff_lt, decide_eq_true_eq]
      simp only at h1 h4 w2
      refine ⟨⟨rfl, rfl, rfl⟩, ?_, ?_⟩
      · split <;> split <;> omega
      · rw [w2]
        split <;> split <;> omega
theorem all_ref {l : List It} (h : right l = true) : allI l = allR l := by
  obtain ⟨h1, h2⟩ := right_iff.1 h
  obtain ⟨e1, e2, e3, _⟩ := both_ways h2 h1 l.length (Nat.le_refl _)
  rw [List.take_length] at e1 e3
  have : allI l = foldI l sum0 := rfl
  rw [this, allR]
  exact Prod.ext (e1.trans e2.symm) e3
theorem of_ref {x : It} (h : rightI x = true) : of x = allR [x] := by
  rw [← all_ref (l := [x]) (by simp [right, h])]
  show of x = add sum0 (of x)
  rw [zero_add (valid_of h) (by decide)]
theorem and4 (a b c d : Bool) : (a && b && c && d) = (b && c && d && a) := by cases a <;> cases b <;> cases c <;> cases d <;> rfl
theorem check_right (i : It) : check i = if rightI i then 0 else 1 := by
  rw [check, rightI, and4]
end Go.Fr.C4
