/-
  Chapter 20: proofs of the laws' conditions. Conditions: none.
-/
import Derived.Test.YtkgplompdnjodaaC20U
namespace Go.Fr.C20
open Go Go.Fr Go.Proofs

theorem rowsE_yes {l : List Cell} {w : Int} (h : wRight w = true) : rowsE l w = (rowsW l w, 0, ()) := by unfold rowsE; rw [if_pos h]
theorem rowsE_no {l : List Cell} {w : Int} (h : wRight w = false) : rowsE l w = ([], 1, ()) := by unfold rowsE; rw [if_neg (by rw [h]; decide)]
theorem ok_len {x : List Cell} (h : okW x) : x.length ≤ maxLen := by rw [maxLen_eq]; have := h.1; omega
theorem p3 : vc3 := by
  unfold vc3
  simp only [eq_self, true_and, and_true, decide_eq_true_eq, decide_eq_false_iff_not, beq_iff_eq, beq_eq_false_iff_ne, bne_iff_ne, bne_eq_false_iff_eq, Bool.not_eq_true', Bool.not_eq_false', ne_eq, imp_true_iff, implies_true]
  rintro ⟨l, w, ⟨⟩⟩
  simp only
  intro hl
  refine ⟨hl, fun h => ?_⟩
  have ok := right_ok h
  refine ⟨ok, ok, ok, ok, fun h => absurd trivial h, fun _ => ⟨fun g => ?_, fun g => ?_⟩⟩
  · have e2 : countE l w = (0, 0, 1, ()) := by rw [countE_eq, rowsE_no g]; rfl
    rw [rowsE_no g, e2]
    simp
  · have hw := wRight_iff.1 g
    have hlen := rowsE_len ok w
    have okr := rowsE_ok ok w
    have e2 := countE_eq l w
    rw [e2, rowsE_yes g, d22]
    rw [rowsE_yes g] at hlen okr
    simp only at hlen okr ⊢
    generalize rowsW l w = R at *
    refine ⟨⟨ok, hw.1, hw.2⟩, fun h => absurd (by simp) h, fun _ => ⟨fun h => absurd (by simp) h, fun _ => ⟨fun h => absurd (by simp) h, fun _ => ⟨fun h => absurd (by simp) h, fun _ => ?_⟩⟩⟩⟩
    refine ⟨fun z => ∃ k : Nat, k ≤ R.length ∧ z.2.1 = (k : Int) ∧ z.1 = widest (R.take k), fun z => R.length - z.2.1.toNat, ⟨0, Nat.zero_le _, rfl, rfl⟩, ?_⟩
    rintro a i ⟨k, hk, hi, ha⟩
    simp only at hi ha
    subst hi ha
    rw [toNat_cast]
    refine ⟨fun g2 => ?_, fun g2 => ?_⟩
    · have hlt : k < R.length := by omega
      have hw : IntKind.i64.wrap ((k : Int) + 1) = ((k + 1 : Nat) : Int) := wrap_succ (by omega)
      have or := ok_row okr hlt
      rw [hw]
      refine ⟨by omega, by omega, ⟨ok_len or, ok_len or⟩, fun h => absurd (by simp) h, fun _ => ⟨or, ⟨k + 1, hlt, rfl, (widest_succ hlt).symm⟩, ?_⟩⟩
      show R.length - (((k + 1 : Nat) : Int)).toNat < R.length - (k : Int).toNat
      rw [toNat_cast, toNat_cast]; omega
    · have : k = R.length := by omega
      subst this
      rw [List.take_length]
      exact fun h => absurd (by simp) h
theorem p4 : vc4 := by
  unfold vc4
  simp only [eq_self, true_and, and_true, decide_eq_true_eq, decide_eq_false_iff_not, beq_iff_eq, beq_eq_false_iff_ne, bne_iff_ne, bne_eq_false_iff_eq, Bool.not_eq_true', Bool.not_eq_false', ne_eq, imp_true_iff, implies_true]
  rintro ⟨l, w, ⟨⟩⟩
  simp only
  intro hl
  refine ⟨hl, fun h h1 h2 => ?_⟩
  have ok := right_ok h
  have g : wRight w = true := wRight_iff.2 (by omega)
  have hlen := rowsE_len ok w
  have okr := rowsE_ok ok w
  have wide := rows_wide ok (w := w) (by omega) (by omega)
  rw [rowsE_yes g, d22]
  rw [rowsE_yes g] at hlen okr
  simp only at hlen okr ⊢
  generalize rowsW l w = R at *
  refine ⟨ok, fun h => absurd (by simp) h, fun _ => ?_⟩
  refine ⟨fun z => ∃ k : Nat, k ≤ R.length ∧ z.1 = (k : Int), fun z => R.length - z.1.toNat, ⟨0, Nat.zero_le _, rfl⟩, ?_⟩
  rintro i ⟨k, hk, hi⟩
  simp only at hi
  subst hi
  rw [toNat_cast]
  intro g2
  have hlt : k < R.length := by omega
  have hw : IntKind.i64.wrap ((k : Int) + 1) = ((k + 1 : Nat) : Int) := wrap_succ (by omega)
  have hwd : width (R.getD k []) ≤ w := by rw [getD_of _ hlt]; exact wide _ (List.getElem_mem _)
  rw [hw]
  refine ⟨by omega, ok_row okr hlt, fun h => by omega, fun _ => ⟨⟨k + 1, hlt, rfl⟩, ?_⟩⟩
  show R.length - (((k + 1 : Nat) : Int)).toNat < R.length - (k : Int).toNat
  rw [toNat_cast, toNat_cast]; omega
/-- The loop that looks for cells of the indent. -/
theorem no_loop {l : List Cell} (hl : l.length ≤ 200) {E : Prop} (hE : noIn l → E) :
    ∃ (Z : Int × Unit → Prop), ∃ (μ : Int × Unit → Nat), Z ((0 : Int), ()) ∧ ∀ (a : Int), Z (a, ()) →
      (a < (l.length : Int) → ((0 : Int) ≤ a ∧ a < (l.length : Int)) ∧ (¬ (l.getD a.toNat (Ty.dflt t38)).2.1 = 5 → Z (IntKind.i64.wrap (a + 1), ()) ∧ μ (IntKind.i64.wrap (a + 1), ()) < μ (a, ()))) ∧
      (¬ a < (l.length : Int) → E) := by
  rw [d38]
  refine ⟨fun z => ∃ k : Nat, k ≤ l.length ∧ z.1 = (k : Int) ∧ ∀ j, j < k → ¬ (l.getD j zCell).2.1 = 5, fun z => l.length - z.1.toNat, ⟨0, Nat.zero_le _, rfl, fun j hj => absurd hj (Nat.not_lt_zero j)⟩, ?_⟩
  rintro i ⟨k, hk, hi, hs⟩
  simp only at hi
  subst hi
  rw [toNat_cast]
  refine ⟨fun g => ?_, fun g => ?_⟩
  · have hlt : k < l.length := by omega
    have hw : IntKind.i64.wrap ((k : Int) + 1) = ((k + 1 : Nat) : Int) := wrap_succ (by omega)
    rw [hw]
    refine ⟨by omega, fun g2 => ⟨⟨k + 1, hlt, rfl, fun j hj => ?_⟩, ?_⟩⟩
    · by_cases e : j = k
      · subst e; exact g2
      · exact hs j (by omega)
    · show l.length - (((k + 1 : Nat) : Int)).toNat < l.length - (k : Int).toNat
      rw [toNat_cast, toNat_cast]; omega
  · refine hE fun c hc => ?_
    obtain ⟨j, hj, rfl⟩ := List.getElem_of_mem hc
    have := hs j (by omega)
    rwa [getD_of _ hj] at this
theorem flat_succ {R : List (List Cell)} {k : Nat} (h : k < R.length) : (R.take (k + 1)).flatten = (R.take k).flatten ++ R.getD k [] := by
  rw [List.take_add_one, List.flatten_append, List.getElem?_eq_getElem h, getD_of _ h]
  simp
theorem filt_succ {r : List Cell} {k : Nat} (h : k < r.length) : (r.take (k + 1)).filter notIn = (r.take k).filter notIn ++ if (r.getD k zCell).2.1 = 5 then [] else [r.getD k zCell] := by
  rw [List.take_add_one, List.filter_append, List.getElem?_eq_getElem h, getD_of _ h]
  congr 1
  simp only [Option.toList, List.filter, notIn]
  by_cases e : r[k].2.1 = 5
  · rw [if_pos e, e]; rfl
  · rw [if_neg e, decide_eq_false e]; rfl
theorem flat_len {R : List (List Cell)} (h : ∀ x ∈ R, okW x) : ∀ k, k ≤ R.length → (R.take k).flatten.length ≤ 1000 * k
  | 0, _ => by simp
  | k + 1, hk => by
    have := flat_len h k (by omega)
    have o := (ok_row h (show k < R.length by omega)).1
    rw [flat_succ (by omega), List.length_append]
    omega
theorem p5 : vc5 := by
  unfold vc5
  simp only [eq_self, true_and, and_true, decide_eq_true_eq, decide_eq_false_iff_not, beq_iff_eq, beq_eq_false_iff_ne, bne_iff_ne, bne_eq_false_iff_eq, Bool.not_eq_true', Bool.not_eq_false', ne_eq, imp_true_iff, implies_true]
  rintro ⟨l, w, ⟨⟩⟩
  simp only
  intro hl
  refine ⟨hl, fun h g => ?_⟩
  have ok := right_ok h
  have h1 := ok.1
  refine no_loop h1 fun hno => ?_
  have hlen := rowsE_len ok w
  have okr := rowsE_ok ok w
  have hflat : (rowsW l w).flatten.filter notIn = l := cut_flat _ 0 l wtakes_cuts hno
  have hpos : (rowsW l w).length = (wtakes l w).length := rowsW_len l w _ _ _ _
  have hT : 1 ≤ (wtakes l w).length := by
    have := wtakes_cuts (l := l) (w := w)
    cases hh : wtakes l w with
    | nil => rw [hh] at this; exact this.elim
    | cons _ _ => simp
  rw [rowsE_yes g, d22, d38, maxLen_eq]
  rw [rowsE_yes g] at hlen okr
  simp only at hlen okr ⊢
  generalize rowsW l w = R at *
  refine ⟨ok, fun h => absurd (by simp) h, fun _ => ⟨fun h => by omega, fun _ => ?_⟩⟩
  refine ⟨fun z => ∃ k : Nat, k ≤ R.length ∧ z.2.1 = (k : Int) ∧ z.1 = (R.take k).flatten.filter notIn, fun z => R.length - z.2.1.toNat, ⟨0, Nat.zero_le _, rfl, rfl⟩, ?_⟩
  rintro a i ⟨k, hk, hi, ha⟩
  simp only at hi ha
  subst hi ha
  simp only [toNat_cast]
  have fl := flat_len okr k hk
  have ff := List.length_filter_le notIn (R.take k).flatten
  refine ⟨fun g2 => ⟨by omega, ?_⟩, fun g2 => ?_⟩
  · have hlt : k < R.length := by omega
    have hw : IntKind.i64.wrap ((k : Int) + 1) = ((k + 1 : Nat) : Int) := wrap_succ (by omega)
    have or := ok_row okr hlt
    have fs := flat_succ hlt
    have hdec : R.length - (((k + 1 : Nat) : Int)).toNat < R.length - (k : Int).toNat := by rw [toNat_cast, toNat_cast]; omega
    rw [hw]
    generalize R.getD k [] = r at *
    have or1 := or.1
    refine ⟨fun z => ∃ j : Nat, j ≤ r.length ∧ z.2.1 = (j : Int) ∧ z.1 = (R.take k).flatten.filter notIn ++ (r.take j).filter notIn, fun z => r.length - z.2.1.toNat, ⟨0, Nat.zero_le _, rfl, by simp⟩, ?_⟩
    rintro b j ⟨n, hn, hj, hb⟩
    simp only at hj hb
    subst hj hb
    rw [toNat_cast]
    have fr := List.length_filter_le notIn (r.take n)
    rw [List.length_take] at fr
    refine ⟨fun g3 => ?_, fun g3 => ?_⟩
    · have hlt2 : n < r.length := by omega
      have hw2 : IntKind.i64.wrap ((n : Int) + 1) = ((n + 1 : Nat) : Int) := wrap_succ (by omega)
      have f2 := filt_succ hlt2
      have hdec2 : r.length - (((n + 1 : Nat) : Int)).toNat < r.length - (n : Int).toNat := by rw [toNat_cast, toNat_cast]; omega
      rw [hw2, List.length_append]
      refine ⟨by omega, fun g4 => ⟨?_, ?_, ⟨n + 1, hlt2, rfl, ?_⟩, hdec2⟩, fun g4 => ⟨⟨n + 1, hlt2, rfl, ?_⟩, hdec2⟩⟩
      · simp only [List.length_cons, List.length_nil]; omega
      · simp only [List.length_cons, List.length_nil]; omega
      · rw [f2, if_neg g4]; simp
      · rw [f2, if_pos g4]; simp
    · have : n = r.length := by omega
      subst this
      rw [List.take_length]
      refine ⟨⟨k + 1, hlt, rfl, ?_⟩, hdec⟩
      rw [fs, List.filter_append]
  · have : k = R.length := by omega
    subst this
    rw [List.take_length, hflat]
    exact ⟨⟨by omega, by omega⟩, fun h => absurd (by simp) h⟩
/-- The loop that counts cells of the indent. -/
theorem inner6 {r : List Cell} (hr : r.length ≤ 1000) {FIN : Int → Prop} (hF : FIN (cnt5 r : Int)) :
    ∃ (Z : Int × Int × Unit → Prop), ∃ (μ : Int × Int × Unit → Nat), Z ((0 : Int), (0 : Int), ()) ∧ ∀ (a b : Int), Z (a, b, ()) →
      (b < (r.length : Int) → ((0 : Int) ≤ b ∧ b < (r.length : Int)) ∧
        ((r.getD b.toNat zCell).2.1 = 5 → Z (IntKind.i64.wrap (a + 1), IntKind.i64.wrap (b + 1), ()) ∧ μ (IntKind.i64.wrap (a + 1), IntKind.i64.wrap (b + 1), ()) < μ (a, b, ())) ∧
        (¬ (r.getD b.toNat zCell).2.1 = 5 → Z (a, IntKind.i64.wrap (b + 1), ()) ∧ μ (a, IntKind.i64.wrap (b + 1), ()) < μ (a, b, ()))) ∧
      (¬ b < (r.length : Int) → FIN a) := by
  refine ⟨fun z => ∃ k : Nat, k ≤ r.length ∧ z.2.1 = (k : Int) ∧ z.1 = (cnt5 (r.take k) : Int) ∧ z.1 ≤ z.2.1, fun z => r.length - z.2.1.toNat, ⟨0, Nat.zero_le _, rfl, by simp [cnt5], by simp⟩, ?_⟩
  rintro a b ⟨k, hk, hb, ha, hab⟩
  simp only at hb ha hab
  subst hb ha
  rw [toNat_cast]
  refine ⟨fun g => ?_, fun g => ?_⟩
  · have hlt : k < r.length := by omega
    have hw1 : IntKind.i64.wrap ((k : Int) + 1) = ((k + 1 : Nat) : Int) := wrap_succ (by omega)
    have hw2 : IntKind.i64.wrap ((cnt5 (r.take k) : Int) + 1) = ((cnt5 (r.take k) + 1 : Nat) : Int) := wrap_succ (by omega)
    have ps := cnt5_succ hlt
    have hdec : r.length - (((k + 1 : Nat) : Int)).toNat < r.length - (k : Int).toNat := by rw [toNat_cast, toNat_cast]; omega
    rw [hw1, hw2]
    refine ⟨by omega, fun g2 => ⟨⟨k + 1, hlt, rfl, by rw [ps, if_pos g2], by simp only; omega⟩, hdec⟩, fun g2 => ⟨⟨k + 1, hlt, rfl, by rw [ps, if_neg g2]; rfl, by simp only; omega⟩, hdec⟩⟩
  · have : k = r.length := by omega
    subst this
    rw [List.take_length]
    exact hF
theorem p6 : vc6 := by
  unfold vc6
  simp only [eq_self, true_and, and_true, decide_eq_true_eq, decide_eq_false_iff_not, beq_iff_eq, beq_eq_false_iff_ne, bne_iff_ne, bne_eq_false_iff_eq, Bool.not_eq_true', Bool.not_eq_false', ne_eq, imp_true_iff, implies_true]
  rintro ⟨l, w, ⟨⟩⟩
  simp only
  intro hl
  refine ⟨hl, fun h g => ?_⟩
  have ok := right_ok h
  have h1 := ok.1
  refine no_loop h1 fun hno => ?_
  have hw := wRight_iff.1 g
  have b := hang_bd ok w
  have hlen := rowsE_len ok w
  have okr := rowsE_ok ok w
  have hTl : (rowsW l w).length = (wtakes l w).length := rowsW_len l w _ _ _ _
  have hget : ∀ k, k < (rowsW l w).length → ∃ x, (rowsW l w).getD k [] = behind (if k = 0 then 0 else hang l w) x ∧ noIn x ∧ (0 < k → x ≠ []) := fun k hk => by
    have := cut_get (h := hang l w) _ 0 l (wtakes_cuts (w := w)) (fun h => by omega) hno k (by omega)
    rwa [Nat.zero_add] at this
  have w1 : IntKind.i64.wrap (w - 2) = w - 2 := by rw [wrap_eq]; omega
  rw [rowsE_yes g, d22, d38, w1]
  rw [rowsE_yes g] at hlen okr
  simp only at hlen okr ⊢
  clear hTl
  generalize rowsW l w = R at *
  generalize hang l w = hg at *
  have cnt : ∀ k, k < R.length → (cnt5 (R.getD k []) : Int) = (if k = 0 then 0 else hg) ∧ (0 < k → (cnt5 (R.getD k []) : Int) < ((R.getD k []).length : Int)) := fun k hk => by
    obtain ⟨x, x1, x2, x3⟩ := hget k hk
    rw [x1, cnt5_behind x2]
    refine ⟨by split <;> omega, fun h0 => ?_⟩
    have := x3 h0
    have : 1 ≤ x.length := by cases x <;> simp_all
    unfold behind
    rw [List.length_append, List.length_replicate]
    omega
  refine ⟨ok, ok, fun h => absurd (by simp) h, fun _ => ⟨fun h => by omega, fun _ => ⟨fun g1 => ⟨fun g2 => by omega, fun _ => ?_⟩, fun g1 => ?_⟩⟩⟩
  all_goals
    refine ⟨fun z => ∃ k : Nat, k ≤ R.length ∧ z.1 = (k : Int), fun z => R.length - z.1.toNat, ⟨0, Nat.zero_le _, rfl⟩, ?_⟩
    rintro i ⟨k, hk, hi⟩
    simp only at hi
    subst hi
    simp only [toNat_cast]
    intro g3
    have hlt : k < R.length := by omega
    have hw3 : IntKind.i64.wrap ((k : Int) + 1) = ((k + 1 : Nat) : Int) := wrap_succ (by omega)
    have or := (ok_row okr hlt).1
    obtain ⟨c1, c2⟩ := cnt k hlt
    have hdec : R.length - (((k + 1 : Nat) : Int)).toNat < R.length - (k : Int).toNat := by rw [toNat_cast, toNat_cast]; omega
    rw [hw3]
    refine ⟨by omega, inner6 or ?_⟩
    have nx : (∃ k' : Nat, k' ≤ R.length ∧ ((k + 1 : Nat) : Int) = (k' : Int)) ∧ R.length - (((k + 1 : Nat) : Int)).toNat < R.length - (k : Int).toNat := ⟨⟨k + 1, hlt, rfl⟩, hdec⟩
    refine ⟨fun e => ⟨fun e2 => ?_, fun _ => ⟨fun e2 => by omega, fun _ => nx⟩⟩, fun e => ⟨fun e2 => ⟨fun e3 => ?_, fun _ => ⟨fun e3 => ?_, fun _ => nx⟩⟩, fun e2 => by omega⟩⟩
    · rw [if_pos (by omega)] at c1; omega
    · rw [if_neg (by omega)] at c1; exact absurd c1 e3
    · have := c2 (by omega); omega
theorem p7 : vc7 := by
  unfold vc7
  simp only [eq_self, true_and, and_true, decide_eq_true_eq, decide_eq_false_iff_not, beq_iff_eq, beq_eq_false_iff_ne, bne_iff_ne, bne_eq_false_iff_eq, Bool.not_eq_true', Bool.not_eq_false', ne_eq, imp_true_iff, implies_true]
  rintro ⟨l, ⟨⟩⟩
  simp only
  intro hl
  refine ⟨hl, fun h => ?_⟩
  have ok := right_ok h
  have e0 : rowsE l 0 = ([l], 0, ()) := by rw [rowsE_yes (wRight_iff.2 (by omega)), rows_0]
  rw [e0]
  have l0 : Int.toNat 0 = 0 := rfl
  simp only [l0, d22]
  refine ⟨ok, fun h => absurd (by simp) h, fun _ => ⟨fun h => absurd (by simp) h, fun _ => ⟨⟨by omega, by simp⟩, ⟨hl, hl⟩, fun h => absurd (by simp) h, fun _ => ⟨okW_of ok, fun g1 g2 => ?_⟩⟩⟩⟩
  have hne : l ≠ [] := fun e => by rw [e] at g1; exact g1 (by decide)
  have e1 : rowsE l (width l) = ([l], 0, ()) := by rw [rowsE_yes (wRight_iff.2 (by omega)), rows_one ok (by omega) (by omega) hne]
  rw [e1]
  refine ⟨ok, fun _ => ⟨fun _ => ⟨⟨by omega, by simp⟩, ⟨hl, hl⟩, fun h => absurd (by simp) h⟩, fun h => absurd (by simp) h⟩, fun h => absurd (by simp) h⟩
end Go.Fr.C20
