/-
  Chapter 03: the sum of runes: proof of its condition. Conditions: none.
-/
import Derived.Test.YtgbadipbimclcaaDoorC03Q
namespace Go.Fr.C03
open Go Go.Fr Go.Proofs

def accS (l : List Int) : Sum := l.foldl addR zSum
theorem accS_succ {l : List Int} {k : Nat} (h : k < l.length) : accS (l.take (k + 1)) = addR (accS (l.take k)) (l.getD k 0) := by
  unfold accS
  rw [foldl_take_succ h, getD_of _ h]
theorem sizeR_bd (x : Int) : 1 ≤ sizeR x ∧ sizeR x ≤ 4 := by
  unfold sizeR uSize
  repeat' split
  all_goals omega
/-- All numbers of a sum stay small. -/
def bdS (s : Sum) (k : Int) : Prop := (0 ≤ s.1 ∧ s.1 ≤ 4 * k) ∧ s.2.1 = k ∧ (0 ≤ s.2.2.1 ∧ s.2.2.1 ≤ k) ∧ (0 ≤ s.2.2.2.1 ∧ s.2.2.2.1 ≤ k) ∧ (0 ≤ s.2.2.2.2.1 ∧ s.2.2.2.2.1 ≤ k) ∧ (0 ≤ s.2.2.2.2.2.1 ∧ s.2.2.2.2.2.1 ≤ k) ∧ (0 ≤ s.2.2.2.2.2.2.1 ∧ s.2.2.2.2.2.2.1 ≤ k)
theorem bdS_add {s : Sum} {k : Int} (h : bdS s k) (x : Int) : bdS (addR s x) (k + 1) := by
  obtain ⟨b, r, n, f, l, lo, ro, ⟨⟩⟩ := s
  have := sizeR_bd x
  simp only [bdS] at h
  unfold addR
  simp only
  split
  · simp only [bdS]; omega
  · simp only [endS, bdS]
    refine ⟨by omega, by omega, by omega, ?_, by omega, ?_, ?_⟩
    all_goals (split <;> omega)
theorem accS_bd (l : List Int) : ∀ k, k ≤ l.length → bdS (accS (l.take k)) (k : Int)
  | 0, _ => by show bdS zSum 0; simp [bdS, zSum]
  | k + 1, h => by
    rw [accS_succ (by omega)]
    have := bdS_add (accS_bd l k (by omega)) (l.getD k 0)
    have e : ((k + 1 : Nat) : Int) = (k : Int) + 1 := by omega
    rw [e]; exact this
theorem p8 : vc8 := by
  unfold vc8
  simp only [eq_self, true_and, and_true, decide_eq_true_eq, decide_eq_false_iff_not, beq_iff_eq, beq_eq_false_iff_ne, bne_iff_ne, bne_eq_false_iff_eq, Bool.not_eq_true', Bool.not_eq_false', ne_eq, imp_true_iff, implies_true]
  rintro ⟨l, ⟨⟩⟩
  simp only
  intro hl
  rw [d21]
  refine ⟨fun z => ∃ k : Nat, k ≤ l.length ∧ z.1 = (k : Int) ∧ (z.2.1, z.2.2.1, z.2.2.2.1, z.2.2.2.2.1, z.2.2.2.2.2.1, z.2.2.2.2.2.2.1, z.2.2.2.2.2.2.2.1, ()) = accS (l.take k), fun z => l.length - z.1.toNat, ⟨0, Nat.zero_le _, rfl, rfl⟩, ?_⟩
  rintro i b r n f la lo ro ⟨k, hk, hi, hs⟩
  simp only at hi hs
  subst hi
  have bd := accS_bd l k hk
  rw [← hs] at bd
  simp only [bdS] at bd
  refine ⟨fun h => ?_, fun h => ?_⟩
  · have hlt : k < l.length := by omega
    have hw : IntKind.i64.wrap ((k : Int) + 1) = ((k + 1 : Nat) : Int) := wrap_succ (by omega)
    have step := accS_succ hlt
    rw [← hs] at step
    rw [toNat_cast, hw]
    generalize l.getD k 0 = x at *
    have sb := sizeR_bd x
    have w1 : IntKind.i64.wrap (b + sizeR x) = b + sizeR x := by rw [wrap_eq]; omega
    have w2 : IntKind.i64.wrap (r + 1) = r + 1 := by rw [wrap_eq]; omega
    have w3 : IntKind.i64.wrap (n + 1) = n + 1 := by rw [wrap_eq]; omega
    have w4 : IntKind.i64.wrap (la + 1) = la + 1 := by rw [wrap_eq]; omega
    rw [w1, w2, w3, w4]
    have hdec : l.length - (((k + 1 : Nat) : Int)).toNat < l.length - (k : Int).toNat := by rw [toNat_cast, toNat_cast]; omega
    have next : ∀ b' r' n' f' la' lo' ro', addR (b, r, n, f, la, lo, ro, ()) x = (b', r', n', f', la', lo', ro', ()) → ∃ k' : Nat, k' ≤ l.length ∧ ((k + 1 : Nat) : Int) = (k' : Int) ∧ ((b', r', n', f', la', lo', ro', ()) : Sum) = accS (l.take k') := fun _ _ _ _ _ _ _ e =>
      ⟨k + 1, hlt, rfl, by rw [step, e]⟩
    (repeat' (first | apply And.intro | intro _))
    all_goals first
      | omega
      | exact hdec
      | (refine next _ _ _ _ _ _ _ ?_; unfold addR; simp only [endS]; simp_all; done)
      | (refine next _ _ _ _ _ _ _ ?_; unfold addR; simp only [endS]; simp_all; omega)
      | skip
  · have : k = l.length := by omega
    subst this
    rw [List.take_length] at hs
    have e : sumOf l = endS (b, r, n, f, la, lo, ro, ()) := by rw [hs]; rfl
    rw [e]
    simp only [endS]
    clear hs e
    (repeat' (first | apply And.intro | intro _))
    all_goals (simp only [Prod.mk.injEq, and_true, true_and])
    all_goals (repeat' split)
    all_goals omega
end Go.Fr.C03
