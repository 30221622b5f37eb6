/-
  Chapter 03: the sum of two texts, in plain Lean. Conditions: none.
-/
import Derived.Test.YtgbadipbimclcaaDoorC03R
namespace Go.Fr.C03
open Go Go.Fr Go.Proofs

/-- What is known of a text and of another one behind it. -/
def glue (s t : Sum) : Sum :=
  let (b1, r1, k1, f1, l1, lo1, ro1, _) := s
  let (b2, r2, k2, f2, l2, lo2, ro2, _) := t
  if k2 = 0 then (b1 + b2, r1 + r2, k1, f1, l1 + l2, lo1, ro1, ())
  else (b1 + b2, r1 + r2, k1 + k2, if k1 = 0 then l1 + f2 else f1, l2,
    if lo2 > (if l1 + f2 > lo1 then l1 + f2 else lo1) then lo2 else (if l1 + f2 > lo1 then l1 + f2 else lo1),
    if lo2 > (if l1 + f2 > lo1 then l1 + f2 else lo1) then k1 + ro2 else (if l1 + f2 > lo1 then k1 else ro1), ())
/-- A state of the sum: without a break nothing is known of lines. -/
def good (s : Sum) : Prop := 0 ≤ s.2.2.1 ∧ 0 ≤ s.2.2.2.1 ∧ 0 ≤ s.2.2.2.2.1 ∧ 0 ≤ s.2.2.2.2.2.1 ∧ (s.2.2.1 = 0 → s.2.2.2.1 = 0 ∧ s.2.2.2.2.2.1 = 0 ∧ s.2.2.2.2.2.2.1 = 0) ∧ (0 < s.2.2.1 → s.2.2.2.1 ≤ s.2.2.2.2.2.1)
theorem good_add {s : Sum} (h : good s) (x : Int) : good (addR s x) := by
  obtain ⟨b, r, k, f, l, lo, ro, ⟨⟩⟩ := s
  simp only [good] at h
  unfold addR
  simp only
  split
  · simp only [good]; omega
  · simp only [endS, good]
    by_cases hk : k = 0 <;> by_cases hl : l > lo <;> simp only [hk, hl, if_true, if_false] <;> omega
theorem glue_add {s t : Sum} (hs : good s) (ht : good t) (x : Int) : addR (glue s t) x = glue s (addR t x) := by
  obtain ⟨b1, r1, k1, f1, l1, lo1, ro1, ⟨⟩⟩ := s
  obtain ⟨b2, r2, k2, f2, l2, lo2, ro2, ⟨⟩⟩ := t
  simp only [good] at hs ht
  by_cases hx : x = 10
  · subst hx
    by_cases hk : k2 = 0
    · subst hk
      obtain ⟨rfl, rfl, rfl⟩ := ht.2.2.2.2.1 rfl
      simp only [glue, addR, endS, if_true, ne_eq, not_true_eq_false, if_false]
      rw [if_neg (by decide : ¬ (0 : Int) + 1 = 0)]
      simp only [Prod.mk.injEq, and_true]
      refine ⟨by omega, by omega, by omega, ?_, ?_, ?_⟩ <;> (repeat' split) <;> (try simp only [if_true] at *) <;> (repeat' split) <;> first | omega | exact ⟨trivial, trivial⟩
    · simp only [glue, addR, endS, if_neg hk, ne_eq, not_true_eq_false, if_false]
      rw [if_neg (by omega : ¬ k2 + 1 = 0), if_neg (by omega : ¬ k1 + k2 = 0)]
      simp only [Prod.mk.injEq, and_true, true_and]
      refine ⟨by omega, by omega, by omega, ?_, ?_⟩ <;> (repeat' split) <;> omega
  · by_cases hk : k2 = 0
    · simp only [glue, addR, if_pos hk, ne_eq, hx, not_false_eq_true, if_true, Prod.mk.injEq, and_true, true_and]
      omega
    · simp only [glue, addR, if_neg hk, ne_eq, hx, not_false_eq_true, if_true, Prod.mk.injEq, and_true, true_and]
      omega
theorem good_acc : ∀ (l : List Int) (s : Sum), good s → good (l.foldl addR s)
  | [], _, h => h
  | x :: l, s, h => good_acc l _ (good_add h x)
theorem good_z : good zSum := by simp [good, zSum]
theorem glue_fold : ∀ (l : List Int) (s t : Sum), good s → good t → l.foldl addR (glue s t) = glue s (l.foldl addR t)
  | [], _, _, _, _ => rfl
  | x :: l, s, t, hs, ht => by
    show l.foldl addR (addR (glue s t) x) = glue s (l.foldl addR (addR t x))
    rw [glue_add hs ht, glue_fold l s _ hs (good_add ht x)]
theorem glue_z (s : Sum) : glue s zSum = s := by
  obtain ⟨b1, r1, k1, f1, l1, lo1, ro1, ⟨⟩⟩ := s
  simp [glue, zSum]
theorem addS_eq (b1 r1 k1 f1 l1 lo1 ro1 b2 r2 k2 f2 l2 lo2 ro2 : Int) : addS (b1, r1, k1, f1, l1, lo1, ro1, ()) (b2, r2, k2, f2, l2, lo2, ro2, ()) =
    (b1 + b2, r1 + r2, k1 + k2, if k1 = 0 then f1 + f2 else f1, if k2 = 0 then l2 + l1 else l2,
      if lo2 > (if l1 + f2 > lo1 then l1 + f2 else lo1) then lo2 else (if l1 + f2 > lo1 then l1 + f2 else lo1),
      if lo2 > (if l1 + f2 > lo1 then l1 + f2 else lo1) then k1 + ro2 else (if l1 + f2 > lo1 then k1 else ro1), ()) := by
  by_cases h1 : l1 + f2 > lo1
  · by_cases h2 : lo2 > l1 + f2
    · simp only [addS, if_pos h1, if_pos h2]
    · simp only [addS, if_pos h1, if_neg h2]
  · by_cases h2 : lo2 > lo1
    · simp only [addS, if_neg h1, if_pos h2]
    · simp only [addS, if_neg h1, if_neg h2]
theorem end_glue {s t : Sum} (hs : good s) (ht : good t) : endS (glue s t) = addS (endS s) (endS t) := by
  obtain ⟨b1, r1, k1, f1, l1, lo1, ro1, ⟨⟩⟩ := s
  obtain ⟨b2, r2, k2, f2, l2, lo2, ro2, ⟨⟩⟩ := t
  simp only [good] at hs ht
  by_cases hk : k2 = 0
  · subst hk
    obtain ⟨rfl, rfl, rfl⟩ := ht.2.2.2.2.1 rfl
    simp only [glue, endS, if_true, addS_eq, Prod.mk.injEq, and_true, true_and]
    refine ⟨by omega, ?_, by omega, ?_, ?_⟩ <;> (repeat' split) <;> omega
  · simp only [glue, endS, if_neg hk, addS_eq, Prod.mk.injEq, and_true, true_and]
    refine ⟨?_, ?_, ?_⟩ <;> (repeat' split) <;> omega
/-- The sum of two texts is that of the one and, behind it, the other one. -/
theorem sum_append (a b : List Int) : sumOf (a ++ b) = addS (sumOf a) (sumOf b) := by
  have ga := good_acc a zSum good_z
  have gb := good_acc b zSum good_z
  unfold sumOf
  rw [List.foldl_append, ← end_glue ga gb, ← glue_fold b _ _ ga good_z, glue_z]
end Go.Fr.C03
