/-
  Chapter 13: the library's sort and search; the order of inlays. Conditions: none.
-/
import Derived.Test.YtepnpmaoodljkaaDoorFrX5
import Derived.Test.YtepnpmaoodljkaaDoorC13A
import Derived.Test.YtepnpmaoodljkaaDoorC13L
import Derived.Test.YtepnpmaoodljkaaDoorC13Lc
import Derived.Lib.IndexAny
namespace Go.Fr.C13
open Go Go.Fr Go.Proofs Go.Sort
theorem cmpI_lt {a b : Int} : cmpI a b < 0 ↔ a < b := by unfold cmpI; split <;> (try split) <;> omega
theorem cmpI_eq {a b : Int} : cmpI a b = 0 ↔ a = b := by unfold cmpI; split <;> (try split) <;> omega
theorem nz_lt {x : Int} {r : List Int} : firstNZ (x :: r) < 0 ↔ x < 0 ∨ (x = 0 ∧ firstNZ r < 0) := by
  show (if x = 0 then firstNZ r else x) < 0 ↔ _
  split <;> omega
theorem cmpL_lt {a b : Inl} : cmpL a b < 0 ↔ a.2.1 < b.2.1 ∨ (a.2.1 = b.2.1 ∧ (a.2.2.2.1 < b.2.2.2.1 ∨ (a.2.2.2.1 = b.2.2.2.1 ∧ a.1 < b.1))) := by
  unfold cmpL
  rw [nz_lt, nz_lt, nz_lt, cmpI_lt, cmpI_lt, cmpI_lt, cmpI_eq, cmpI_eq, cmpI_eq]
  have : ¬ firstNZ [] < 0 := by decide
  simp only [this, and_false, or_false]
theorem ltL {x y : Inl} : ltOf cmpL x y = decide (x.2.1 < y.2.1 ∨ (x.2.1 = y.2.1 ∧ (x.2.2.2.1 < y.2.2.2.1 ∨ (x.2.2.2.1 = y.2.2.2.1 ∧ x.1 < y.1)))) := by
  unfold ltOf
  exact decide_eq_decide.2 cmpL_lt
theorem swoL : SWO (ltOf cmpL) where
  irrefl x := by rw [ltL]; simp
  trans x y z h1 h2 := by
    rw [ltL] at *
    rw [decide_eq_true_eq] at *
    omega
  ntrans x y z h1 h2 := by
    rw [ltL] at *
    rw [decide_eq_false_iff_not] at *
    omega
theorem alikeL {x y : Inl} (h1 : ltOf cmpL x y = false) (h2 : ltOf cmpL y x = false) : x.1 = y.1 := by
  rw [ltL] at h1 h2
  rw [decide_eq_false_iff_not] at h1 h2
  omega
theorem ahead_lt {a b : Inl} : aheadI a b = true ↔ cmpL a b < 0 := by
  rw [cmpL_lt]
  unfold aheadI
  split
  · rw [decide_eq_true_eq]; omega
  · split
    · rw [decide_eq_true_eq]; omega
    · rw [decide_eq_true_eq]; omega
theorem r25 (h : CallSpec Tryd.prog noGl 26 cOrder) : RSpec Tryd.prog 25 rSort :=
  sortP_spec Tryd.lSort (T := t42) rfl rfl (by decide) Tryd.isAgg42 Tryd.sizeOf42 rfl Tryd.func25 (by decide) (by kernel_rfl : Tryd.f25.body = some (bodyOf Tryd.f25)) (cf := cmpL) swoL (enters_of Tryd.func26 (by kernel_rfl) rfl) h
theorem s41 (G : Nat → Option ((t : Ty) × t.den)) : CallSpec Tryd.prog G 41 cContains := by
  refine ⟨⟨Tryd.f41, bodyOf Tryd.f41, Tryd.func41, by decide, by kernel_rfl⟩, ?_⟩
  rintro ⟨s, t, ⟨⟩⟩ h w args hp hr hin hg
  have hp : t = (ByteArray.mk #[10]) := hp
  subst hp
  obtain ⟨v, r, rfl, ⟨cs, hc, rfl⟩, v2, r2, rfl, ⟨cs2, hc2, rfl⟩, rfl⟩ := (show ∃ v r, args = v :: r ∧ vrep h .str s v ∧ ∃ v2 r2, r = v2 :: r2 ∧ vrep h .str (ByteArray.mk #[10]) v2 ∧ r2 = [] from hr)
  simp only [rep] at hc hc2
  subst hc hc2
  refine (Any.strings_Contains_one Tryd.lContains s 10 w).mono ?_
  rintro e w' ⟨rfl, rfl⟩
  refine ⟨_, h, rfl, PLe.refl h, fun k hk => .inl hk, hin, ?_, Below.refl _ _⟩
  show vrep h .bool (hasNL s) _
  refine ⟨[.bool (hasNL s)], rfl, ?_⟩
  show Value.bool _ = Value.bool (hasNL s)
  unfold hasNL
  rw [Lib.contains_iff_indexByte]
end Go.Fr.C13
