/-
  Chapter 11: the library's sort; the order of anchors. Conditions: none.
-/
import Derived.Test.YtbecepgbplafmaaFrX5
import Derived.Test.YtbecepgbplafmaaC11A
import Derived.Test.YtbecepgbplafmaaC11L
namespace Go.Fr.C11
open Go Go.Fr Go.Proofs Go.Sort
theorem cmpI_lt {a b : Int} : cmpI a b < 0 ↔ a < b := by unfold cmpI; split <;> (try split) <;> omega
theorem cmpI_eq {a b : Int} : cmpI a b = 0 ↔ a = b := by unfold cmpI; split <;> (try split) <;> omega
theorem cmpA_lt {a b : Anc} : cmpA a b < 0 ↔ a.2.1 < b.2.1 ∨ (a.2.1 = b.2.1 ∧ a.1 < b.1) := by
  unfold cmpA firstNZ firstNZ firstNZ cmpI
  split <;> (try split) <;> (try split) <;> (try split) <;> (try split) <;> (try split) <;> omega
theorem ltA {x y : Anc} : ltOf cmpA x y = decide (x.2.1 < y.2.1 ∨ (x.2.1 = y.2.1 ∧ x.1 < y.1)) := by
  unfold ltOf
  exact decide_eq_decide.2 cmpA_lt
theorem swoA : SWO (ltOf cmpA) where
  irrefl x := by rw [ltA]; simp
  trans x y z h1 h2 := by rw [ltA] at *; simp at *; omega
  ntrans x y z h1 h2 := by rw [ltA] at *; simp at *; omega
theorem alikeA {x y : Anc} (h1 : ltOf cmpA x y = false) (h2 : ltOf cmpA y x = false) : x.1 = y.1 := by
  rw [ltA] at h1 h2
  simp at h1 h2
  omega
theorem r23 (h : CallSpec Try.prog noGl 24 cOrder) : RSpec Try.prog 23 rSort :=
  sortP_spec Try.lSort (T := t36) rfl rfl (by decide) Try.isAgg36 Try.sizeOf36 rfl Try.func23 (by decide) (by kernel_rfl : Try.f23.body = some (bodyOf Try.f23)) (cf := cmpA) swoA (enters_of Try.func24 (by kernel_rfl) rfl) h
end Go.Fr.C11
