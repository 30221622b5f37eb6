/-
  Chapter 03: the conditions of the laws on adding and on brackets. Conditions: none.
-/
import Derived.Test.YtgbadipbimclcaaDoorC03S
namespace Go.Fr.C03
open Go Go.Fr Go.Proofs

theorem okSum_of {l : List Int} (h : l.length ≤ 1000000000) : okSum (sumOf l) := by
  have bd := accS_bd l l.length (Nat.le_refl _)
  rw [List.take_length] at bd
  have e : sumOf l = endS (accS l) := rfl
  rw [e]
  clear e
  generalize accS l = s at bd ⊢
  obtain ⟨b, r, n, f, la, lo, ro, ⟨⟩⟩ := s
  simp only [bdS] at bd
  simp only [endS, okSum]
  refine ⟨by omega, by omega, by omega, by omega, by omega, by omega, ?_, ?_, by omega, by omega, ?_, ?_, ?_, ?_⟩ <;> (repeat' split) <;> omega
theorem beq25 (s : Sum) : Ty.beq t25 s s = true := by
  obtain ⟨b, r, n, f, la, lo, ro, ⟨⟩⟩ := s
  show (b == b && (r == r && (n == n && (f == f && (la == la && (lo == lo && (ro == ro && true))))))) = true
  simp
theorem sum_nil : sumOf [] = zSum := rfl
theorem add_z (l : List Int) : addS (sumOf l) zSum = sumOf l := by rw [← sum_nil, ← sum_append, List.append_nil]
theorem z_add (l : List Int) : addS zSum (sumOf l) = sumOf l := by rw [← sum_nil, ← sum_append, List.nil_append]
theorem p4 : vc4 := by
  unfold vc4
  rintro ⟨a, b, ⟨⟩⟩
  simp only
  rintro ⟨la, lb⟩
  have z : ((0, 0, 0, 0, 0, 0, 0, ()) : Sum) = zSum := rfl
  have oz : okSum zSum := by simp [okSum, zSum]
  rw [z, List.nil_append, add_z, z_add, ← sum_append, beq25, beq25]
  rw [maxLen_eq] at *
  refine ⟨fun _ => ⟨trivial, by simp⟩, fun h1 => ⟨fun _ => ⟨trivial, by simp⟩, fun h2 => ?_⟩⟩
  have h1 := of_decide_eq_false h1
  have h2 := of_decide_eq_false h2
  have oa := okSum_of (l := a) (by omega)
  have ob := okSum_of (l := b) (by omega)
  have e0 : ([] : List Int).length = 0 := rfl
  rw [e0, List.length_append]
  refine ⟨by omega, by omega, by omega, by omega, by omega, by omega, ⟨oa, ob⟩, by omega, ?_⟩
  simp [oa, oz]
theorem p5 : vc5 := by
  unfold vc5
  rintro ⟨a, b, c, ⟨⟩⟩
  simp only
  rintro ⟨la, lb, lc⟩
  rw [← sum_append a b, ← sum_append b c, ← sum_append, ← sum_append, List.append_assoc, beq25]
  refine ⟨fun _ => ⟨trivial, by simp⟩, fun h1 => ⟨fun _ => ⟨trivial, by simp⟩, fun h2 => ⟨fun _ => ⟨trivial, by simp⟩, fun h3 => ?_⟩⟩⟩
  have h1 := of_decide_eq_false h1
  have h2 := of_decide_eq_false h2
  have h3 := of_decide_eq_false h3
  have oa := okSum_of (l := a) (by omega)
  have ob := okSum_of (l := b) (by omega)
  have oc := okSum_of (l := c) (by omega)
  have oab := okSum_of (l := a ++ b) (by rw [List.length_append]; omega)
  have obc := okSum_of (l := b ++ c) (by rw [List.length_append]; omega)
  refine ⟨by omega, by omega, by omega, ⟨oa, ob⟩, ⟨oab, oc⟩, ⟨ob, oc⟩, ⟨oa, obc⟩, fun _ => ⟨trivial, by simp⟩, fun h => by cases h⟩
end Go.Fr.C03
