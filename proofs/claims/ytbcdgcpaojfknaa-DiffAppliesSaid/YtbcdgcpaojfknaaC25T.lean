/-
  Chapter 25: what Apply gives; the two laws on it. Conditions: none.
-/
import Derived.Test.YtbcdgcpaojfknaaC25S
namespace Go.Fr.C25
open Go Go.Fr Go.Proofs

theorem rowsS_rows {l : List Row} (h : rowsS l) : rows l := by
  refine ⟨?_, fun r hr => ?_⟩
  · have := h.1; rw [maxLen_eq]; omega
  · have := h.2 r hr; rw [maxLen_eq]; omega
theorem longFrom_len : ∀ (l : List Row) (n : Int), 0 ≤ n → n ≤ 400 → (∀ r ∈ l, r.1.length ≤ 140737488355328) → longFrom n l = false → n + l.length ≤ 400
  | [], n, _, h, _, _ => by simpa using h
  | r :: l, n, h0, h1, hr, h => by
    have h2 := hr r (List.mem_cons_self ..)
    have hw : IntKind.i64.wrap (IntKind.i64.wrap (n + (r.1.length : Int)) + 1) = n + (r.1.length : Int) + 1 := by rw [wrap_eq, wrap_eq]; omega
    rw [longFrom, hw] at h
    by_cases hg : n + (r.1.length : Int) + 1 > 400
    · rw [if_pos hg] at h; cases h
    · rw [if_neg hg] at h
      have := longFrom_len l (n + (r.1.length : Int) + 1) (by omega) (by omega) (fun r hr' => hr r (List.mem_cons_of_mem _ hr')) h
      rw [List.length_cons]
      omega
theorem long_len {l : List Row} (h : rowsS l) (hl : long l = false) : l.length ≤ 400 := by
  have := longFrom_len l 0 (by omega) (by omega) h.2 hl
  omega
theorem apOk_iff {a b : List Row} {p : RP} : apOk a p b = true ↔ 0 ≤ p.1 ∧ p.1 ≤ p.2.1 ∧ p.2.1 ≤ (a.length : Int) ∧ fits p a.length ((a.length : Int) - (p.2.1 - p.1) + b.length) = true := by
  simp only [apOk, Bool.and_eq_true, decide_eq_true_eq]
  constructor
  · rintro ⟨⟨h1, h2, h3⟩, h4⟩; exact ⟨h1, h2, h3, h4⟩
  · rintro ⟨h1, h2, h3, h4⟩; exact ⟨⟨h1, h2, h3⟩, h4⟩
theorem apply_no {a b : List Row} {p : RP} (h : ¬ apOk a p b = true) : apply a p b = ([], 1, ()) := by rw [apply, if_neg h]
theorem apply_yes {a b : List Row} {p : RP} (h : apOk a p b = true) : apply a p b = (a.take p.1.toNat ++ (b ++ a.drop p.2.1.toNat), 0, ()) := by rw [apply, if_pos h]
theorem p19 : vc19 := by
  unfold vc19
  simp only [eq_self, true_and, and_true, decide_eq_true_eq, decide_eq_false_iff_not, beq_iff_eq, beq_eq_false_iff_ne, bne_iff_ne, bne_eq_false_iff_eq, Bool.not_eq_true', Bool.not_eq_false', ne_eq, imp_true_iff, implies_true]
  rintro ⟨a, p, b, ⟨⟩⟩
  simp only
  rintro ⟨la, lb⟩
  have no : ¬ apOk a p b = true → ([], (1 : Int), ()) = apply a p b := fun h => (apply_no h).symm
  rw [apOk_iff] at no
  refine ⟨fun h => no (by omega), fun h1 => ⟨fun h => no (by omega), fun h2 => ⟨fun h => no (by omega), fun h3 => ?_⟩⟩⟩
  have hw : IntKind.i64.wrap (IntKind.i64.wrap ((a.length : Int) - IntKind.i64.wrap (p.2.1 - p.1)) + (b.length : Int)) = (a.length : Int) - (p.2.1 - p.1) + b.length := by
    rw [wrap_eq, wrap_eq, wrap_eq]; omega
  rw [hw]
  refine ⟨⟨by omega, by omega⟩, fun h => no (fun hh => by rw [h] at hh; cases hh.2.2.2), fun h4 => ⟨⟨by omega, by omega⟩, ⟨by omega, by omega⟩, ⟨by simp, ?_⟩, ?_⟩⟩
  · intro l hl
    simp only [List.mem_cons, List.not_mem_nil, or_false] at hl
    rcases hl with rfl | rfl | rfl
    · have : (a.take p.1.toNat).length ≤ 1000 := by rw [List.length_take]; omega
      exact this
    · exact lb
    · have : (a.drop p.2.1.toNat).length ≤ 1000 := by rw [List.length_drop]; omega
      exact this
  · rw [apply_yes (apOk_iff.2 ⟨by omega, by omega, by omega, h4⟩)]
    simp
theorem rowEq_self (a : Row) : rowEq a a = true := by
  have : all2 cellEq a.1 a.1 = true := (all2_iff zCell).2 ⟨rfl, fun k _ => cellEq_iff.2 rfl⟩
  simp [rowEq, this]
theorem rows_app {a b : List Row} (ha : rows a) (hb : rows b) (hl : a.length + b.length ≤ maxLen) : rows (a ++ b) := by
  refine ⟨by rw [List.length_append]; exact hl, fun r hr => ?_⟩
  rcases List.mem_append.1 hr with h | h
  · exact ha.2 r h
  · exact hb.2 r h
theorem p7 : vc7 := by
  unfold vc7
  simp only [eq_self, true_and, and_true, decide_eq_true_eq, decide_eq_false_iff_not, beq_iff_eq, beq_eq_false_iff_ne, bne_iff_ne, bne_eq_false_iff_eq, Bool.not_eq_true', Bool.not_eq_false', ne_eq, imp_true_iff, implies_true]
  rintro ⟨a, b, p, ⟨⟩⟩
  simp only
  rintro ⟨ha, hb⟩
  have ra := rowsS_rows ha
  have rb := rowsS_rows hb
  refine ⟨ra.1, fun g1 => ⟨rb.1, fun g2 => ?_⟩⟩
  have la := long_len ha g1
  have lb := long_len hb g2
  have bad : ¬ apOk a p b = true → ((apply a p b).2.1 = 1 → ¬ ((apply a p b).1.length : Int) = 0 → false = true) ∧ (¬ (apply a p b).2.1 = 1 → false = true) := by
    intro h
    rw [apply_no h]
    simp
  rw [apOk_iff] at bad
  refine ⟨⟨by omega, by omega⟩, fun h0 => ⟨fun h1 => ⟨fun h2 => ?_, fun h2 => ⟨fun _ => bad (by omega), fun h => absurd h h2⟩⟩, fun h1 => ⟨fun _ => bad (by omega), fun h => by cases h⟩⟩, fun h0 => ⟨fun _ => bad (by omega), fun h => by cases h⟩⟩
  have hw : IntKind.i64.wrap (IntKind.i64.wrap ((a.length : Int) - IntKind.i64.wrap (p.2.1 - p.1)) + (b.length : Int)) = (a.length : Int) - (p.2.1 - p.1) + b.length := by
    rw [wrap_eq, wrap_eq, wrap_eq]; omega
  rw [hw]
  refine ⟨⟨by omega, by omega⟩, fun hf => bad (fun h => by rw [hf] at h; cases h.2.2.2), fun hf => ?_⟩
  have l1 : (a.take p.1.toNat).length ≤ 400 := by rw [List.length_take]; omega
  have l2 : (a.drop p.2.1.toNat).length ≤ 400 := by rw [List.length_drop]; omega
  have e : [] ++ a.take p.1.toNat ++ b ++ a.drop p.2.1.toNat = a.take p.1.toNat ++ (b ++ a.drop p.2.1.toNat) := by simp
  rw [e, apply_yes (apOk_iff.2 ⟨by omega, by omega, by omega, hf⟩)]
  have hr : rows (a.take p.1.toNat ++ (b ++ a.drop p.2.1.toNat)) := rows_app (rows_take ra _) (rows_app rb (rows_drop ra _) (by rw [maxLen_eq]; omega)) (by rw [List.length_append, maxLen_eq]; omega)
  simp only [maxLen_eq, List.length_append, List.nil_append]
  refine ⟨⟨by omega, by omega⟩, by omega, by omega, by omega, by omega, ⟨by omega, by omega⟩, by omega, by omega, fun _ => ⟨⟨hr, hr⟩, fun h => ?_⟩, fun h => absurd trivial h⟩
  rw [(all2_iff zRow).2 ⟨rfl, fun k _ => rowEq_self _⟩] at h
  cases h
theorem all2_app {α : Type} {f : α → α → Bool} : ∀ {a b c d : List α}, all2 f a b = true → all2 f c d = true → all2 f (a ++ c) (b ++ d) = true
  | [], [], _, _, _, h => h
  | x :: a, y :: b, c, d, h, g => by
    simp only [all2, Bool.and_eq_true] at h
    simp only [List.cons_append, all2, Bool.and_eq_true]
    exact ⟨h.1, all2_app h.2 g⟩
  | [], _ :: _, _, _, h, _ => by cases h
  | _ :: _, [], _, _, h, _ => by cases h
theorem back {a b : List Row} {q : RP} (h : sound a b q = true) (la : a.length ≤ 400) (lb : b.length ≤ 400) (ra : rows a) (rb : rows b) :
    0 ≤ q.2.2.1 ∧ q.2.2.1 ≤ q.2.2.2.1 ∧ q.2.2.2.1 ≤ (b.length : Int) ∧ ((b.take q.2.2.2.1.toNat).drop q.2.2.1.toNat).length ≤ 1000 ∧
      ∃ l : List Row, apply a q ((b.take q.2.2.2.1.toNat).drop q.2.2.1.toNat) = (l, 0, ()) ∧ l.length = b.length ∧ rows l ∧ ∀ k, k < b.length → same (l.getD k zRow) (b.getD k zRow) = true := by
  simp only [sound, Bool.and_eq_true] at h
  obtain ⟨h1, h2, h3⟩ := h
  have f := fits_iff.1 h1
  obtain ⟨f1, f2, f3, f4, f5, f6, f7⟩ := f
  have hm : ((b.take q.2.2.2.1.toNat).drop q.2.2.1.toNat).length = q.2.2.2.1.toNat - q.2.2.1.toNat := by
    rw [List.length_drop, List.length_take]; omega
  have hsum : (a.length : Int) - (q.2.1 - q.1) + (((b.take q.2.2.2.1.toNat).drop q.2.2.1.toNat).length : Int) = b.length := by rw [hm]; omega
  refine ⟨by omega, f5, f6, by rw [hm]; omega, ?_⟩
  have ok : apOk a q ((b.take q.2.2.2.1.toNat).drop q.2.2.1.toNat) = true := apOk_iff.2 ⟨f1, f2, f3, by rw [hsum]; exact h1⟩
  have hb : b = b.take q.2.2.1.toNat ++ ((b.take q.2.2.2.1.toNat).drop q.2.2.1.toNat ++ b.drop q.2.2.2.1.toNat) := by
    rw [← List.append_assoc]
    have : b.take q.2.2.1.toNat ++ (b.take q.2.2.2.1.toNat).drop q.2.2.1.toNat = b.take q.2.2.2.1.toNat := by
      have e : b.take q.2.2.1.toNat = (b.take q.2.2.2.1.toNat).take q.2.2.1.toNat := by rw [List.take_take, Nat.min_eq_left (by omega)]
      rw [e, List.take_append_drop]
    rw [this, List.take_append_drop]
  have hall : all2 same (a.take q.1.toNat ++ ((b.take q.2.2.2.1.toNat).drop q.2.2.1.toNat ++ a.drop q.2.1.toNat)) b = true := by
    have := all2_app h2 (all2_app ((all2_iff zRow).2 ⟨rfl, fun k _ => same_self _⟩ : all2 same ((b.take q.2.2.2.1.toNat).drop q.2.2.1.toNat) ((b.take q.2.2.2.1.toNat).drop q.2.2.1.toNat) = true) h3)
    rw [← hb] at this
    exact this
  obtain ⟨g1, g2⟩ := (all2_iff zRow).1 hall
  refine ⟨_, apply_yes ok, g1, ?_, fun k hk => g2 k (by omega)⟩
  have l1 : (a.take q.1.toNat).length ≤ 400 := by rw [List.length_take]; omega
  have l2 : (a.drop q.2.1.toNat).length ≤ 400 := by rw [List.length_drop]; omega
  exact rows_app (rows_take ra _) (rows_app (rows_drop (rows_take rb _) _) (rows_drop ra _) (by rw [maxLen_eq]; omega)) (by rw [List.length_append, maxLen_eq]; omega)
theorem p8 : vc8 := by
  unfold vc8
  simp only [eq_self, true_and, and_true, decide_eq_true_eq, decide_eq_false_iff_not, beq_iff_eq, beq_eq_false_iff_ne, bne_iff_ne, bne_eq_false_iff_eq, Bool.not_eq_true', Bool.not_eq_false', ne_eq, imp_true_iff, implies_true]
  rintro ⟨a, b, p, ⟨⟩⟩
  simp only
  rintro ⟨ha, hb⟩
  have ra := rowsS_rows ha
  have rb := rowsS_rows hb
  refine ⟨ra.1, fun g1 => ⟨rb.1, fun g2 => ?_⟩⟩
  have la := long_len ha g1
  have lb := long_len hb g2
  rw [d24]
  have loop : ∀ (l : List Row), l.length = b.length → rows l → (∀ k, k < b.length → same (l.getD k zRow) (b.getD k zRow) = true) → ∀ i : Int, (∃ k : Nat, k ≤ l.length ∧ i = (k : Int)) →
      (i < (l.length : Int) → (0 ≤ i ∧ i < (l.length : Int)) ∧ (0 ≤ i ∧ i < (b.length : Int)) ∧ ((l.getD i.toNat zRow).1.length ≤ maxLen ∧ (b.getD i.toNat zRow).1.length ≤ maxLen) ∧
        (same (l.getD i.toNat zRow) (b.getD i.toNat zRow) = false → false = true) ∧ (same (l.getD i.toNat zRow) (b.getD i.toNat zRow) = true → (∃ k : Nat, k ≤ l.length ∧ IntKind.i64.wrap (i + 1) = (k : Int)) ∧ l.length - (IntKind.i64.wrap (i + 1)).toNat < l.length - i.toNat)) := by
    rintro l hl hr hs i ⟨k, hk, rfl⟩ h
    have hlt : k < l.length := by omega
    have hw : IntKind.i64.wrap ((k : Int) + 1) = ((k + 1 : Nat) : Int) := wrap_succ (by omega)
    rw [toNat_cast, hw]
    refine ⟨⟨by omega, h⟩, ⟨by omega, by omega⟩, ⟨?_, ?_⟩, fun g => ?_, fun g => ⟨⟨k + 1, hlt, rfl⟩, by rw [toNat_cast]; omega⟩⟩
    · rw [getD_of zRow hlt]; exact hr.2 _ (List.getElem_mem hlt)
    · have hl2 : k < b.length := by omega
      rw [getD_of zRow hl2]; exact rb.2 _ (List.getElem_mem hl2)
    · rw [hs k (by omega)] at g; cases g
  refine ⟨⟨ra, rb⟩, fun _ => ⟨⟨ra, rb⟩, ?_⟩, fun hs => ?_⟩
  · have hs := least_sound a b
    generalize least a b = q at hs ⊢
    obtain ⟨e1, e2, e3, e4, l, e, hl, hr, hsame⟩ := back hs la lb ra rb
    rw [e]
    refine ⟨fun h => by omega, fun _ => ⟨fun h => by omega, fun _ => ⟨fun h => by omega, fun _ => ⟨⟨e1, e2, e3⟩, ⟨by omega, e4⟩, fun h => absurd rfl h, fun _ => ⟨fun h => absurd (congrArg Nat.cast hl) h, fun _ => ?_⟩⟩⟩⟩⟩
    exact ⟨fun z => ∃ k : Nat, k ≤ l.length ∧ z.1 = (k : Int), fun z => l.length - z.1.toNat, ⟨0, Nat.zero_le _, rfl⟩, fun i hz h => loop l hl hr hsame i hz h⟩
  · generalize p = q at hs ⊢
    obtain ⟨e1, e2, e3, e4, l, e, hl, hr, hsame⟩ := back hs la lb ra rb
    rw [e]
    refine ⟨fun h => by omega, fun _ => ⟨fun h => by omega, fun _ => ⟨fun h => by omega, fun _ => ⟨⟨e1, e2, e3⟩, ⟨by omega, e4⟩, fun h => absurd rfl h, fun _ => ⟨fun h => absurd (congrArg Nat.cast hl) h, fun _ => ?_⟩⟩⟩⟩⟩
    exact ⟨fun z => ∃ k : Nat, k ≤ l.length ∧ z.1 = (k : Int), fun z => l.length - z.1.toNat, ⟨0, Nat.zero_le _, rfl⟩, fun i hz h => loop l hl hr hsame i hz h⟩
end Go.Fr.C25
