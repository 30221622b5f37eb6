/-
  Chapter 15: the library's sort. Conditions: none.
-/
import Derived.Test.YtmjhpfbpidlbcaaFrX3
import Derived.Test.YtmjhpfbpidlbcaaC15A
import Derived.Test.YtmjhpfbpidlbcaaC15L
namespace Go.Fr.C15
open Go Go.Fr Go.Proofs Go.Sort
theorem cmpI_lt {a b : Int} : cmpI a b < 0 ↔ a < b := by unfold cmpI; split <;> (try split) <;> omega
theorem cmpI_eq {a b : Int} : cmpI a b = 0 ↔ a = b := by unfold cmpI; split <;> (try split) <;> omega
theorem cmpS_lt {a b : Span} : cmpS a b < 0 ↔ a.1 < b.1 ∨ (a.1 = b.1 ∧ a.2.1 < b.2.1) := by
  unfold cmpS firstNZ firstNZ firstNZ cmpI
  split <;> (try split) <;> (try split) <;> (try split) <;> (try split) <;> (try split) <;> omega
theorem span_ext {a b : Span} (h1 : a.1 = b.1) (h2 : a.2.1 = b.2.1) : a = b := by
  obtain ⟨a1, a2, ⟨⟩⟩ := a
  obtain ⟨b1, b2, ⟨⟩⟩ := b
  simp only at h1 h2
  subst h1 h2
  rfl
theorem ltS {x y : Span} : ltOf cmpS x y = decide (x.1 < y.1 ∨ (x.1 = y.1 ∧ x.2.1 < y.2.1)) := by
  unfold ltOf
  exact decide_eq_decide.2 cmpS_lt
theorem swoS : SWO (ltOf cmpS) where
  irrefl x := by rw [ltS]; simp
  trans x y z h1 h2 := by rw [ltS] at *; simp at *; omega
  ntrans x y z h1 h2 := by rw [ltS] at *; simp at *; omega
theorem totS (x y : Span) (h1 : ltOf cmpS x y = false) (h2 : ltOf cmpS y x = false) : x = y := by
  rw [ltS] at h1 h2
  simp at h1 h2
  exact span_ext (by omega) (by omega)
theorem r27 (h : CallSpec Try.prog noGl 28 cOrder) : RSpec Try.prog 27 rSort :=
  sortF_spec Try.lSort (T := t33) rfl rfl (by decide) Try.isAgg33 Try.sizeOf33 rfl Try.func27 (by decide) (by kernel_rfl : Try.f27.body = some (bodyOf Try.f27)) (cf := cmpS) swoS totS (enters_of Try.func28 (by kernel_rfl) rfl) h
end Go.Fr.C15
