/-
  Conditions to be proved, function by function, printed by a program. Conditions: none.
-/
import Derived.Test.YtbecepgbplafmaaC11A
namespace Go.Fr.C11
open Go Go.Fr Go.Proofs
set_option maxRecDepth 100000

/- fn 10 -/
def hs10 : List (Nat × Nat × Hint) := [(0, 6, ⟨[.slot 20 t3], [0, 1, 18, 19], [], []⟩),
  (0, 11, ⟨[.slot 48 t3], [0, 1, 6, 18, 19, 20, 46, 47], [6], []⟩)]
def nm10 : List Nat := [3000000023]
noncomputable def E10 : Env := env tab [] [] noGl hs10 nm10
def vc10 : Prop :=
 ∀ (x : Int × List Anc × Unit),
 List.length x.snd.fst ≤ maxLen →
 (decide (x.fst < (0 : Int)) = true → (1 : Int) = wrongA x.fst x.snd.fst) ∧
 (decide (x.fst < (0 : Int)) = false →
 (decide (x.fst > (1099511627776 : Int)) = true → (1 : Int) = wrongA x.fst x.snd.fst) ∧
 (decide (x.fst > (1099511627776 : Int)) = false →
 (decide ((↑(List.length x.snd.fst) : Int) > (200 : Int)) = true → (5 : Int) = wrongA x.fst x.snd.fst) ∧
 (decide ((↑(List.length x.snd.fst) : Int) > (200 : Int)) = false →
 ((0 : Int) = (0 : Int) ∧
 x.fst = x.fst ∧
 x.snd.fst = x.snd.fst ∧
 x.snd.fst = x.snd.fst ∧ (↑(List.length x.snd.fst) : Int) = (↑(List.length x.snd.fst) : Int)) ∧
 ∃ (Z : Int × Unit → Prop),
 ∃ (μ : Int × Unit → Nat),
 Z ((0 : Int), ()) ∧
 ∀ (a : Int),
 Z (a, ()) →
 (decide (a < (↑(List.length x.snd.fst) : Int)) = true →
 ((0 : Int) ≤ a ∧ a < (↑(List.length x.snd.fst) : Int)) ∧
 (decide ((List.getD x.snd.fst (Int.toNat a) (Ty.dflt t35)).snd.fst < (0 : Int)) =
 true →
 (1 : Int) = wrongA x.fst x.snd.fst) ∧
 (decide ((List.getD x.snd.fst (Int.toNat a) (Ty.dflt t35)).snd.fst < (0 : Int)) =
 false →
 (decide ((List.getD x.snd.fst (Int.toNat a) (Ty.dflt t35)).snd.fst > x.fst) =
 true →
 (1 : Int) = wrongA x.fst x.snd.fst) ∧
 (decide ((List.getD x.snd.fst (Int.toNat a) (Ty.dflt t35)).snd.fst > x.fst) =
 false →
 (((List.getD x.snd.fst (Int.toNat a) (Ty.dflt t35)).snd.snd.fst !=
 (0 : Int)) =
 true →
 (((List.getD x.snd.fst (Int.toNat a) (Ty.dflt t35)).snd.snd.fst !=
 (1 : Int)) =
 true →
 (1 : Int) = wrongA x.fst x.snd.fst) ∧
 (((List.getD x.snd.fst (Int.toNat a) (Ty.dflt t35)).snd.snd.fst !=
 (1 : Int)) =
 false →
 ((0 : Int) ≤ a ∧ a ≤ (↑(List.length x.snd.fst) : Int)) ∧
 (((0 : Int) = (0 : Int) ∧
 x.fst = x.fst ∧
 x.snd.fst = x.snd.fst ∧
 True ∧
 x.snd.fst = x.snd.fst ∧
 (↑(List.length x.snd.fst) : Int) =
 (↑(List.length x.snd.fst) : Int) ∧
 a = a ∧
 List.take (Int.toNat a) x.snd.fst =
 List.take (Int.toNat a) x.snd.fst ∧
 (↑(List.length
 (List.take (Int.toNat a) x.snd.fst)) :
 Int) =
 (↑(List.length
 (List.take (Int.toNat a) x.snd.fst)) :
 Int)) ∧
 (List.getD x.snd.fst (Int.toNat a) (Ty.dflt t35)).fst =
 (List.getD x.snd.fst (Int.toNat a) (Ty.dflt t35)).fst ∧
 (List.getD x.snd.fst (Int.toNat a) (Ty.dflt t35)).snd.fst =
 (List.getD x.snd.fst (Int.toNat a)
 (Ty.dflt t35)).snd.fst ∧
 (List.getD x.snd.fst (Int.toNat a)
 (Ty.dflt t35)).snd.snd.fst =
 (List.getD x.snd.fst (Int.toNat a)
 (Ty.dflt t35)).snd.snd.fst) ∧
 ∃ (Z_1 : Int × Unit → Prop),
 ∃ (μ_1 : Int × Unit → Nat),
 Z_1 ((0 : Int), ()) ∧
 ∀ (a_7 : Int),
 Z_1 (a_7, ()) →
 (decide
 (a_7 <
 (↑(List.length
 (List.take (Int.toNat a) x.snd.fst)) :
 Int)) =
 true →
 ((0 : Int) ≤ a_7 ∧
 a_7 <
 (↑(List.length
 (List.take (Int.toNat a) x.snd.fst)) :
 Int)) ∧
 (((List.getD (List.take (Int.toNat a) x.snd.fst)
 (Int.toNat a_7) (Ty.dflt t35)).fst ==
 (List.getD x.snd.fst (Int.toNat a)
 (Ty.dflt t35)).fst) =
 true →
 (8 : Int) = wrongA x.fst x.snd.fst) ∧
 (((List.getD (List.take (Int.toNat a) x.snd.fst)
 (Int.toNat a_7) (Ty.dflt t35)).fst ==
 (List.getD x.snd.fst (Int.toNat a)
 (Ty.dflt t35)).fst) =
 false →
 ((IntKind.wrap IntKind.i64 (a_7 + (1 : Int)) =
 IntKind.wrap IntKind.i64
 (a_7 + (1 : Int)) ∧
 x.fst = x.fst ∧
 x.snd.fst = x.snd.fst ∧
 True ∧
 x.snd.fst = x.snd.fst ∧
 (↑(List.length x.snd.fst) :
 Int) =
 (↑(List.length x.snd.fst) :
 Int) ∧
 a = a ∧
 List.take (Int.toNat a)
 x.snd.fst =
 List.take (Int.toNat a)
 x.snd.fst ∧
 (↑(List.length
 (List.take
 (Int.toNat a)
 x.snd.fst)) :
 Int) =
 (↑(List.length
 (List.take
 (Int.toNat a)
 x.snd.fst)) :
 Int)) ∧
 (List.getD x.snd.fst (Int.toNat a)
 (Ty.dflt t35)).fst =
 (List.getD x.snd.fst (Int.toNat a)
 (Ty.dflt t35)).fst ∧
 (List.getD x.snd.fst (Int.toNat a)
 (Ty.dflt t35)).snd.fst =
 (List.getD x.snd.fst (Int.toNat a)
 (Ty.dflt t35)).snd.fst ∧
 (List.getD x.snd.fst (Int.toNat a)
 (Ty.dflt t35)).snd.snd.fst =
 (List.getD x.snd.fst (Int.toNat a)
 (Ty.dflt
 t35)).snd.snd.fst) ∧
 Z_1
 (IntKind.wrap IntKind.i64
 (a_7 + (1 : Int)),
 ()) ∧
 μ_1
 (IntKind.wrap IntKind.i64
 (a_7 + (1 : Int)),
 ()) <
 μ_1 (a_7, ()))) ∧
 (decide
 (a_7 <
 (↑(List.length
 (List.take (Int.toNat a) x.snd.fst)) :
 Int)) =
 false →
 (IntKind.wrap IntKind.i64 (a + (1 : Int)) =
 IntKind.wrap IntKind.i64 (a + (1 : Int)) ∧
 x.fst = x.fst ∧
 x.snd.fst = x.snd.fst ∧
 x.snd.fst = x.snd.fst ∧
 (↑(List.length x.snd.fst) : Int) =
 (↑(List.length x.snd.fst) : Int)) ∧
 Z (IntKind.wrap IntKind.i64 (a + (1 : Int)), ()) ∧
 μ
 (IntKind.wrap IntKind.i64 (a + (1 : Int)),
 ()) <
 μ (a, ())))) ∧
 (((List.getD x.snd.fst (Int.toNat a) (Ty.dflt t35)).snd.snd.fst !=
 (0 : Int)) =
 false →
 ((0 : Int) ≤ a ∧ a ≤ (↑(List.length x.snd.fst) : Int)) ∧
 (((0 : Int) = (0 : Int) ∧
 x.fst = x.fst ∧
 x.snd.fst = x.snd.fst ∧
 True ∧
 x.snd.fst = x.snd.fst ∧
 (↑(List.length x.snd.fst) : Int) =
 (↑(List.length x.snd.fst) : Int) ∧
 a = a ∧
 List.take (Int.toNat a) x.snd.fst =
 List.take (Int.toNat a) x.snd.fst ∧
 (↑(List.length
 (List.take (Int.toNat a) x.snd.fst)) :
 Int) =
 (↑(List.length
 (List.take (Int.toNat a) x.snd.fst)) :
 Int)) ∧
 (List.getD x.snd.fst (Int.toNat a) (Ty.dflt t35)).fst =
 (List.getD x.snd.fst (Int.toNat a) (Ty.dflt t35)).fst ∧
 (List.getD x.snd.fst (Int.toNat a) (Ty.dflt t35)).snd.fst =
 (List.getD x.snd.fst (Int.toNat a) (Ty.dflt t35)).snd.fst ∧
 (List.getD x.snd.fst (Int.toNat a) (Ty.dflt t35)).snd.snd.fst =
 (List.getD x.snd.fst (Int.toNat a)
 (Ty.dflt t35)).snd.snd.fst) ∧
 ∃ (Z_1 : Int × Unit → Prop),
 ∃ (μ_1 : Int × Unit → Nat),
 Z_1 ((0 : Int), ()) ∧
 ∀ (a_6 : Int),
 Z_1 (a_6, ()) →
 (decide
 (a_6 <
 (↑(List.length
 (List.take (Int.toNat a) x.snd.fst)) :
 Int)) =
 true →
 ((0 : Int) ≤ a_6 ∧
 a_6 <
 (↑(List.length
 (List.take (Int.toNat a) x.snd.fst)) :
 Int)) ∧
 (((List.getD (List.take (Int.toNat a) x.snd.fst)
 (Int.toNat a_6) (Ty.dflt t35)).fst ==
 (List.getD x.snd.fst (Int.toNat a)
 (Ty.dflt t35)).fst) =
 true →
 (8 : Int) = wrongA x.fst x.snd.fst) ∧
 (((List.getD (List.take (Int.toNat a) x.snd.fst)
 (Int.toNat a_6) (Ty.dflt t35)).fst ==
 (List.getD x.snd.fst (Int.toNat a)
 (Ty.dflt t35)).fst) =
 false →
 ((IntKind.wrap IntKind.i64 (a_6 + (1 : Int)) =
 IntKind.wrap IntKind.i64
 (a_6 + (1 : Int)) ∧
 x.fst = x.fst ∧
 x.snd.fst = x.snd.fst ∧
 True ∧
 x.snd.fst = x.snd.fst ∧
 (↑(List.length x.snd.fst) : Int) =
 (↑(List.length x.snd.fst) :
 Int) ∧
 a = a ∧
 List.take (Int.toNat a)
 x.snd.fst =
 List.take (Int.toNat a)
 x.snd.fst ∧
 (↑(List.length
 (List.take
 (Int.toNat a)
 x.snd.fst)) :
 Int) =
 (↑(List.length
 (List.take
 (Int.toNat a)
 x.snd.fst)) :
 Int)) ∧
 (List.getD x.snd.fst (Int.toNat a)
 (Ty.dflt t35)).fst =
 (List.getD x.snd.fst (Int.toNat a)
 (Ty.dflt t35)).fst ∧
 (List.getD x.snd.fst (Int.toNat a)
 (Ty.dflt t35)).snd.fst =
 (List.getD x.snd.fst (Int.toNat a)
 (Ty.dflt t35)).snd.fst ∧
 (List.getD x.snd.fst (Int.toNat a)
 (Ty.dflt t35)).snd.snd.fst =
 (List.getD x.snd.fst (Int.toNat a)
 (Ty.dflt t35)).snd.snd.fst) ∧
 Z_1
 (IntKind.wrap IntKind.i64 (a_6 + (1 : Int)),
 ()) ∧
 μ_1
 (IntKind.wrap IntKind.i64
 (a_6 + (1 : Int)),
 ()) <
 μ_1 (a_6, ()))) ∧
 (decide
 (a_6 <
 (↑(List.length
 (List.take (Int.toNat a) x.snd.fst)) :
 Int)) =
 false →
 (IntKind.wrap IntKind.i64 (a + (1 : Int)) =
 IntKind.wrap IntKind.i64 (a + (1 : Int)) ∧
 x.fst = x.fst ∧
 x.snd.fst = x.snd.fst ∧
 x.snd.fst = x.snd.fst ∧
 (↑(List.length x.snd.fst) : Int) =
 (↑(List.length x.snd.fst) : Int)) ∧
 Z (IntKind.wrap IntKind.i64 (a + (1 : Int)), ()) ∧
 μ (IntKind.wrap IntKind.i64 (a + (1 : Int)), ()) <
 μ (a, ())))))) ∧
 (decide (a < (↑(List.length x.snd.fst) : Int)) = false →
 (0 : Int) = wrongA x.fst x.snd.fst))))
theorem vcEq10 : fnVC E10 Try.f10 (bodyOf Try.f10) cWrong = vc10 := by kernel_rfl
/- fn 11 -/
def hs11 : List (Nat × Nat × Hint) := [(0, 3, ⟨[.rowS 3 900000003 t35 35, .slot 8 t3], [6, 7], [], []⟩)]
def nm11 : List Nat := [3000000023]
noncomputable def E11 : Env := env tab [] [] noGl hs11 nm11
def vc11 : Prop :=
 ∀ (x : List Anc × Unit),
 List.length x.fst ≤ (10000 : Nat) →
 (((0 : Int) = (0 : Int) ∧ True ∧ x.fst = x.fst ∧ (↑(List.length x.fst) : Int) = (↑(List.length x.fst) : Int)) ∧
 True ∧ True) ∧
 ∃ (Z : List Anc × Int × Unit → Prop),
 ∃ (μ : List Anc × Int × Unit → Nat),
 Z ([], (0 : Int), ()) ∧
 ∀ (a : List Anc) (a_1 : Int),
 Z (a, a_1, ()) →
 (decide (a_1 < (↑(List.length x.fst) : Int)) = true →
 ((0 : Int) ≤ a_1 ∧ a_1 < (↑(List.length x.fst) : Int)) ∧
 (List.length a + List.length [List.getD x.fst (Int.toNat a_1) (Ty.dflt t36)]) * (24 : Nat) ≤
 (140737488355328 : Nat) ∧
 List.length a + List.length [List.getD x.fst (Int.toNat a_1) (Ty.dflt t36)] ≤ maxLen ∧
 ((IntKind.wrap IntKind.i64 (a_1 + (1 : Int)) = IntKind.wrap IntKind.i64 (a_1 + (1 : Int)) ∧
 True ∧ x.fst = x.fst ∧ (↑(List.length x.fst) : Int) = (↑(List.length x.fst) : Int)) ∧
 a ++ [List.getD x.fst (Int.toNat a_1) (Ty.dflt t36)] =
 a ++ [List.getD x.fst (Int.toNat a_1) (Ty.dflt t36)] ∧
 True) ∧
 Z
 (a ++ [List.getD x.fst (Int.toNat a_1) (Ty.dflt t36)],
 IntKind.wrap IntKind.i64 (a_1 + (1 : Int)), ()) ∧
 μ
 (a ++ [List.getD x.fst (Int.toNat a_1) (Ty.dflt t36)],
 IntKind.wrap IntKind.i64 (a_1 + (1 : Int)), ()) <
 μ (a, a_1, ())) ∧
 (decide (a_1 < (↑(List.length x.fst) : Int)) = false → a = x.fst)
theorem vcEq11 : fnVC E11 Try.f11 (bodyOf Try.f11) cRefs = vc11 := by kernel_rfl
/- fn 12 -/
def hs12 : List (Nat × Nat × Hint) := [(0, 3, ⟨[.rowS 3 900000003 t35 35, .slot 12 t3], [10, 11], [], []⟩),
  (0, 8, ⟨[.rowS 6 900000006 t35 35, .slot 7 t4, .slot 18 t3], [5, 10, 11, 12, 16, 17], [5], [900000003]⟩)]
def nm12 : List Nat := [3000000023]
noncomputable def E12 : Env := env tab [] [] noGl hs12 nm12
def vc12 : Prop :=
 ∀ (x : List Anc × Unit),
 List.length x.fst ≤ (10000 : Nat) →
 (((0 : Int) = (0 : Int) ∧ True ∧ x.fst = x.fst ∧ (↑(List.length x.fst) : Int) = (↑(List.length x.fst) : Int)) ∧
 True ∧ True) ∧
 ∃ (Z : List Anc × Int × Unit → Prop),
 ∃ (μ : List Anc × Int × Unit → Nat),
 Z ([], (0 : Int), ()) ∧
 ∀ (a : List Anc) (a_1 : Int),
 Z (a, a_1, ()) →
 (decide (a_1 < (↑(List.length x.fst) : Int)) = true →
 ((0 : Int) ≤ a_1 ∧ a_1 < (↑(List.length x.fst) : Int)) ∧
 (((0 : Int) = (0 : Int) ∧
 false = false ∧
 True ∧
 True ∧
 x.fst = x.fst ∧
 (↑(List.length x.fst) : Int) = (↑(List.length x.fst) : Int) ∧
 a_1 = a_1 ∧ True ∧ (↑(List.length a) : Int) = (↑(List.length a) : Int)) ∧
 ((List.getD x.fst (Int.toNat a_1) (Ty.dflt t35)).fst =
 (List.getD x.fst (Int.toNat a_1) (Ty.dflt t35)).fst ∧
 (List.getD x.fst (Int.toNat a_1) (Ty.dflt t35)).snd.fst =
 (List.getD x.fst (Int.toNat a_1) (Ty.dflt t35)).snd.fst ∧
 (List.getD x.fst (Int.toNat a_1) (Ty.dflt t35)).snd.snd.fst =
 (List.getD x.fst (Int.toNat a_1) (Ty.dflt t35)).snd.snd.fst) ∧
 True ∧ a = a ∧ True) ∧
 ∃ (Z_1 : List Anc × Bool × Int × Unit → Prop),
 ∃ (μ_1 : List Anc × Bool × Int × Unit → Nat),
 Z_1 ([], false, (0 : Int), ()) ∧
 ∀ (a_4 : List Anc) (a_5 : Bool) (a_6 : Int),
 Z_1 (a_4, a_5, a_6, ()) →
 (decide (a_6 < (↑(List.length a) : Int)) = true →
 ((0 : Int) ≤ a_6 ∧ a_6 < (↑(List.length a) : Int)) ∧
 ((!a_5) = true →
 (decide
 ((List.getD a (Int.toNat a_6) (Ty.dflt t35)).snd.fst >
 (List.getD x.fst (Int.toNat a_1) (Ty.dflt t35)).snd.fst) =
 true →
 (List.length a_4 +
 List.length [List.getD x.fst (Int.toNat a_1) (Ty.dflt t35)]) *
 (24 : Nat) ≤
 (140737488355328 : Nat) ∧
 List.length a_4 +
 List.length [List.getD x.fst (Int.toNat a_1) (Ty.dflt t35)] ≤
 maxLen ∧
 (List.length
 (a_4 ++ [List.getD x.fst (Int.toNat a_1) (Ty.dflt t35)]) +
 List.length [List.getD a (Int.toNat a_6) (Ty.dflt t35)]) *
 (24 : Nat) ≤
 (140737488355328 : Nat) ∧
 List.length
 (a_4 ++ [List.getD x.fst (Int.toNat a_1) (Ty.dflt t35)]) +
 List.length [List.getD a (Int.toNat a_6) (Ty.dflt t35)] ≤
 maxLen ∧
 ((IntKind.wrap IntKind.i64 (a_6 + (1 : Int)) =
 IntKind.wrap IntKind.i64 (a_6 + (1 : Int)) ∧
 true = true ∧
 True ∧
 True ∧
 x.fst = x.fst ∧
 (↑(List.length x.fst) : Int) =
 (↑(List.length x.fst) : Int) ∧
 a_1 = a_1 ∧
 True ∧
 (↑(List.length a) : Int) =
 (↑(List.length a) : Int)) ∧
 ((List.getD x.fst (Int.toNat a_1) (Ty.dflt t35)).fst =
 (List.getD x.fst (Int.toNat a_1) (Ty.dflt t35)).fst ∧
 (List.getD x.fst (Int.toNat a_1)
 (Ty.dflt t35)).snd.fst =
 (List.getD x.fst (Int.toNat a_1)
 (Ty.dflt t35)).snd.fst ∧
 (List.getD x.fst (Int.toNat a_1)
 (Ty.dflt t35)).snd.snd.fst =
 (List.getD x.fst (Int.toNat a_1)
 (Ty.dflt t35)).snd.snd.fst) ∧
 a_4 ++ [List.getD x.fst (Int.toNat a_1) (Ty.dflt t35)] ++
 [List.getD a (Int.toNat a_6) (Ty.dflt t35)] =
 a_4 ++
 [List.getD x.fst (Int.toNat a_1) (Ty.dflt t35)] ++
 [List.getD a (Int.toNat a_6) (Ty.dflt t35)] ∧
 a = a ∧ True) ∧
 Z_1
 (a_4 ++ [List.getD x.fst (Int.toNat a_1) (Ty.dflt t35)] ++
 [List.getD a (Int.toNat a_6) (Ty.dflt t35)],
 true, IntKind.wrap IntKind.i64 (a_6 + (1 : Int)), ()) ∧
 μ_1
 (a_4 ++
 [List.getD x.fst (Int.toNat a_1) (Ty.dflt t35)] ++
 [List.getD a (Int.toNat a_6) (Ty.dflt t35)],
 true, IntKind.wrap IntKind.i64 (a_6 + (1 : Int)),
 ()) <
 μ_1 (a_4, a_5, a_6, ())) ∧
 (decide
 ((List.getD a (Int.toNat a_6) (Ty.dflt t35)).snd.fst >
 (List.getD x.fst (Int.toNat a_1) (Ty.dflt t35)).snd.fst) =
 false →
 (((List.getD a (Int.toNat a_6) (Ty.dflt t35)).snd.fst ==
 (List.getD x.fst (Int.toNat a_1) (Ty.dflt t35)).snd.fst) =
 true →
 (decide
 ((List.getD a (Int.toNat a_6) (Ty.dflt t35)).fst >
 (List.getD x.fst (Int.toNat a_1) (Ty.dflt t35)).fst) =
 true →
 (List.length a_4 +
 List.length
 [List.getD x.fst (Int.toNat a_1) (Ty.dflt t35)]) *
 (24 : Nat) ≤
 (140737488355328 : Nat) ∧
 List.length a_4 +
 List.length
 [List.getD x.fst (Int.toNat a_1) (Ty.dflt t35)] ≤
 maxLen ∧
 (List.length
 (a_4 ++
 [List.getD x.fst (Int.toNat a_1)
 (Ty.dflt t35)]) +
 List.length
 [List.getD a (Int.toNat a_6) (Ty.dflt t35)]) *
 (24 : Nat) ≤
 (140737488355328 : Nat) ∧
 List.length
 (a_4 ++
 [List.getD x.fst (Int.toNat a_1)
 (Ty.dflt t35)]) +
 List.length
 [List.getD a (Int.toNat a_6) (Ty.dflt t35)] ≤
 maxLen ∧
 ((IntKind.wrap IntKind.i64 (a_6 + (1 : Int)) =
 IntKind.wrap IntKind.i64 (a_6 + (1 : Int)) ∧
 true = true ∧
 True ∧
 True ∧
 x.fst = x.fst ∧
 (↑(List.length x.fst) : Int) =
 (↑(List.length x.fst) : Int) ∧
 a_1 = a_1 ∧
 True ∧
 (↑(List.length a) : Int) =
 (↑(List.length a) : Int)) ∧
 ((List.getD x.fst (Int.toNat a_1)
 (Ty.dflt t35)).fst =
 (List.getD x.fst (Int.toNat a_1)
 (Ty.dflt t35)).fst ∧
 (List.getD x.fst (Int.toNat a_1)
 (Ty.dflt t35)).snd.fst =
 (List.getD x.fst (Int.toNat a_1)
 (Ty.dflt t35)).snd.fst ∧
 (List.getD x.fst (Int.toNat a_1)
 (Ty.dflt t35)).snd.snd.fst =
 (List.getD x.fst (Int.toNat a_1)
 (Ty.dflt t35)).snd.snd.fst) ∧
 a_4 ++
 [List.getD x.fst (Int.toNat a_1)
 (Ty.dflt t35)] ++
 [List.getD a (Int.toNat a_6)
 (Ty.dflt t35)] =
 a_4 ++
 [List.getD x.fst (Int.toNat a_1)
 (Ty.dflt t35)] ++
 [List.getD a (Int.toNat a_6)
 (Ty.dflt t35)] ∧
 a = a ∧ True) ∧
 Z_1
 (a_4 ++
 [List.getD x.fst (Int.toNat a_1)
 (Ty.dflt t35)] ++
 [List.getD a (Int.toNat a_6) (Ty.dflt t35)],
 true,
 IntKind.wrap IntKind.i64 (a_6 + (1 : Int)),
 ()) ∧
 μ_1
 (a_4 ++
 [List.getD x.fst (Int.toNat a_1)
 (Ty.dflt t35)] ++
 [List.getD a (Int.toNat a_6) (Ty.dflt t35)],
 true,
 IntKind.wrap IntKind.i64 (a_6 + (1 : Int)),
 ()) <
 μ_1 (a_4, a_5, a_6, ())) ∧
 (decide
 ((List.getD a (Int.toNat a_6) (Ty.dflt t35)).fst >
 (List.getD x.fst (Int.toNat a_1) (Ty.dflt t35)).fst) =
 false →
 (List.length a_4 +
 List.length
 [List.getD a (Int.toNat a_6) (Ty.dflt t35)]) *
 (24 : Nat) ≤
 (140737488355328 : Nat) ∧
 List.length a_4 +
 List.length
 [List.getD a (Int.toNat a_6) (Ty.dflt t35)] ≤
 maxLen ∧
 ((IntKind.wrap IntKind.i64 (a_6 + (1 : Int)) =
 IntKind.wrap IntKind.i64 (a_6 + (1 : Int)) ∧
 a_5 = a_5 ∧
 True ∧
 True ∧
 x.fst = x.fst ∧
 (↑(List.length x.fst) : Int) =
 (↑(List.length x.fst) : Int) ∧
 a_1 = a_1 ∧
 True ∧
 (↑(List.length a) : Int) =
 (↑(List.length a) : Int)) ∧
 ((List.getD x.fst (Int.toNat a_1) (Ty.dflt t35)).fst =
 (List.getD x.fst (Int.toNat a_1)
 (Ty.dflt t35)).fst ∧
 (List.getD x.fst (Int.toNat a_1)
 (Ty.dflt t35)).snd.fst =
 (List.getD x.fst (Int.toNat a_1)
 (Ty.dflt t35)).snd.fst ∧
 (List.getD x.fst (Int.toNat a_1)
 (Ty.dflt t35)).snd.snd.fst =
 (List.getD x.fst (Int.toNat a_1)
 (Ty.dflt t35)).snd.snd.fst) ∧
 a_4 ++ [List.getD a (Int.toNat a_6) (Ty.dflt t35)] =
 a_4 ++
 [List.getD a (Int.toNat a_6) (Ty.dflt t35)] ∧
 a = a ∧ True) ∧
 Z_1
 (a_4 ++ [List.getD a (Int.toNat a_6) (Ty.dflt t35)],
 a_5, IntKind.wrap IntKind.i64 (a_6 + (1 : Int)),
 ()) ∧
 μ_1
 (a_4 ++ [List.getD a (Int.toNat a_6) (Ty.dflt t35)],
 a_5, IntKind.wrap IntKind.i64 (a_6 + (1 : Int)),
 ()) <
 μ_1 (a_4, a_5, a_6, ()))) ∧
 (((List.getD a (Int.toNat a_6) (Ty.dflt t35)).snd.fst ==
 (List.getD x.fst (Int.toNat a_1) (Ty.dflt t35)).snd.fst) =
 false →
 (List.length a_4 +
 List.length [List.getD a (Int.toNat a_6) (Ty.dflt t35)]) *
 (24 : Nat) ≤
 (140737488355328 : Nat) ∧
 List.length a_4 +
 List.length [List.getD a (Int.toNat a_6) (Ty.dflt t35)] ≤
 maxLen ∧
 ((IntKind.wrap IntKind.i64 (a_6 + (1 : Int)) =
 IntKind.wrap IntKind.i64 (a_6 + (1 : Int)) ∧
 a_5 = a_5 ∧
 True ∧
 True ∧
 x.fst = x.fst ∧
 (↑(List.length x.fst) : Int) =
 (↑(List.length x.fst) : Int) ∧
 a_1 = a_1 ∧
 True ∧
 (↑(List.length a) : Int) =
 (↑(List.length a) : Int)) ∧
 ((List.getD x.fst (Int.toNat a_1) (Ty.dflt t35)).fst =
 (List.getD x.fst (Int.toNat a_1) (Ty.dflt t35)).fst ∧
 (List.getD x.fst (Int.toNat a_1)
 (Ty.dflt t35)).snd.fst =
 (List.getD x.fst (Int.toNat a_1)
 (Ty.dflt t35)).snd.fst ∧
 (List.getD x.fst (Int.toNat a_1)
 (Ty.dflt t35)).snd.snd.fst =
 (List.getD x.fst (Int.toNat a_1)
 (Ty.dflt t35)).snd.snd.fst) ∧
 a_4 ++ [List.getD a (Int.toNat a_6) (Ty.dflt t35)] =
 a_4 ++ [List.getD a (Int.toNat a_6) (Ty.dflt t35)] ∧
 a = a ∧ True) ∧
 Z_1
 (a_4 ++ [List.getD a (Int.toNat a_6) (Ty.dflt t35)], a_5,
 IntKind.wrap IntKind.i64 (a_6 + (1 : Int)), ()) ∧
 μ_1
 (a_4 ++ [List.getD a (Int.toNat a_6) (Ty.dflt t35)],
 a_5, IntKind.wrap IntKind.i64 (a_6 + (1 : Int)), ()) <
 μ_1 (a_4, a_5, a_6, ())))) ∧
 ((!a_5) = false →
 (List.length a_4 +
 List.length [List.getD a (Int.toNat a_6) (Ty.dflt t35)]) *
 (24 : Nat) ≤
 (140737488355328 : Nat) ∧
 List.length a_4 +
 List.length [List.getD a (Int.toNat a_6) (Ty.dflt t35)] ≤
 maxLen ∧
 ((IntKind.wrap IntKind.i64 (a_6 + (1 : Int)) =
 IntKind.wrap IntKind.i64 (a_6 + (1 : Int)) ∧
 a_5 = a_5 ∧
 True ∧
 True ∧
 x.fst = x.fst ∧
 (↑(List.length x.fst) : Int) =
 (↑(List.length x.fst) : Int) ∧
 a_1 = a_1 ∧
 True ∧
 (↑(List.length a) : Int) =
 (↑(List.length a) : Int)) ∧
 ((List.getD x.fst (Int.toNat a_1) (Ty.dflt t35)).fst =
 (List.getD x.fst (Int.toNat a_1) (Ty.dflt t35)).fst ∧
 (List.getD x.fst (Int.toNat a_1) (Ty.dflt t35)).snd.fst =
 (List.getD x.fst (Int.toNat a_1) (Ty.dflt t35)).snd.fst ∧
 (List.getD x.fst (Int.toNat a_1) (Ty.dflt t35)).snd.snd.fst =
 (List.getD x.fst (Int.toNat a_1)
 (Ty.dflt t35)).snd.snd.fst) ∧
 a_4 ++ [List.getD a (Int.toNat a_6) (Ty.dflt t35)] =
 a_4 ++ [List.getD a (Int.toNat a_6) (Ty.dflt t35)] ∧
 a = a ∧ True) ∧
 Z_1
 (a_4 ++ [List.getD a (Int.toNat a_6) (Ty.dflt t35)], a_5,
 IntKind.wrap IntKind.i64 (a_6 + (1 : Int)), ()) ∧
 μ_1
 (a_4 ++ [List.getD a (Int.toNat a_6) (Ty.dflt t35)], a_5,
 IntKind.wrap IntKind.i64 (a_6 + (1 : Int)), ()) <
 μ_1 (a_4, a_5, a_6, ()))) ∧
 (decide (a_6 < (↑(List.length a) : Int)) = false →
 ((!a_5) = true →
 (List.length a_4 +
 List.length [List.getD x.fst (Int.toNat a_1) (Ty.dflt t35)]) *
 (24 : Nat) ≤
 (140737488355328 : Nat) ∧
 List.length a_4 +
 List.length [List.getD x.fst (Int.toNat a_1) (Ty.dflt t35)] ≤
 maxLen ∧
 ((IntKind.wrap IntKind.i64 (a_1 + (1 : Int)) =
 IntKind.wrap IntKind.i64 (a_1 + (1 : Int)) ∧
 True ∧
 x.fst = x.fst ∧
 (↑(List.length x.fst) : Int) = (↑(List.length x.fst) : Int)) ∧
 a_4 ++ [List.getD x.fst (Int.toNat a_1) (Ty.dflt t35)] =
 a_4 ++ [List.getD x.fst (Int.toNat a_1) (Ty.dflt t35)] ∧
 True) ∧
 Z
 (a_4 ++ [List.getD x.fst (Int.toNat a_1) (Ty.dflt t35)],
 IntKind.wrap IntKind.i64 (a_1 + (1 : Int)), ()) ∧
 μ
 (a_4 ++ [List.getD x.fst (Int.toNat a_1) (Ty.dflt t35)],
 IntKind.wrap IntKind.i64 (a_1 + (1 : Int)), ()) <
 μ (a, a_1, ())) ∧
 ((!a_5) = false →
 ((IntKind.wrap IntKind.i64 (a_1 + (1 : Int)) =
 IntKind.wrap IntKind.i64 (a_1 + (1 : Int)) ∧
 True ∧
 x.fst = x.fst ∧
 (↑(List.length x.fst) : Int) = (↑(List.length x.fst) : Int)) ∧
 a_4 = a_4 ∧ True) ∧
 Z (a_4, IntKind.wrap IntKind.i64 (a_1 + (1 : Int)), ()) ∧
 μ (a_4, IntKind.wrap IntKind.i64 (a_1 + (1 : Int)), ()) <
 μ (a, a_1, ())))) ∧
 (decide (a_1 < (↑(List.length x.fst) : Int)) = false → a = insA x.fst)
theorem vcEq12 : fnVC E12 Try.f12 (bodyOf Try.f12) cOrdered = vc12 := by kernel_rfl
/- fn 13 -/
def hs13 : List (Nat × Nat × Hint) := []
def nm13 : List Nat := [3000000023]
noncomputable def E13 : Env := env tab [] [] noGl hs13 nm13
def vc13 : Prop :=
 ∀ (x : Option (Int × List Anc × List (Int × Anc × Unit) × Unit) × Int × Unit),
 True →
 (Option.isNone x.fst = true → (((0 : Int), (0 : Int), (0 : Int), ()), (6 : Int), ()) = getA x.fst x.snd.fst) ∧
 (Option.isNone x.fst = false →
 Option.isSome x.fst = true ∧
 ((!Option.isSome (mget t3 t36 x.snd.fst (List.getD (optL x.fst) (0 : Nat) (Ty.dflt t60)).snd.snd.fst)) =
 true →
 (((0 : Int), (0 : Int), (0 : Int), ()), (6 : Int), ()) = getA x.fst x.snd.fst) ∧
 ((!Option.isSome (mget t3 t36 x.snd.fst (List.getD (optL x.fst) (0 : Nat) (Ty.dflt t60)).snd.snd.fst)) =
 false →
 (Option.getD (mget t3 t36 x.snd.fst (List.getD (optL x.fst) (0 : Nat) (Ty.dflt t60)).snd.snd.fst)
 ((0 : Int), (0 : Int), (0 : Int), ()),
 (0 : Int), ()) =
 getA x.fst x.snd.fst))
theorem vcEq13 : fnVC E13 Try.f13 (bodyOf Try.f13) cGet = vc13 := by kernel_rfl
/- fn 14 -/
def hs14 : List (Nat × Nat × Hint) := [(0, 3, ⟨[.slot 11 t3], [1, 5, 10], [], []⟩)]
def nm14 : List Nat := [3000000023]
noncomputable def E14 : Env := env tab [(11, cRefs)] [] noGl hs14 nm14
def vc14 : Prop :=
 ∀ (x : List Anc × List Anc × Unit),
 List.length x.fst ≤ (10000 : Nat) ∧ List.length x.snd.fst ≤ maxLen →
 List.length x.fst ≤ (10000 : Nat) ∧
 ((0 : Int) = (0 : Int) ∧
 x.snd.fst = x.snd.fst ∧ x.fst = x.fst ∧ (↑(List.length x.fst) : Int) = (↑(List.length x.fst) : Int)) ∧
 ∃ (Z : Int × Unit → Prop),
 ∃ (μ : Int × Unit → Nat),
 Z ((0 : Int), ()) ∧
 ∀ (a : Int),
 Z (a, ()) →
 (decide (a < (↑(List.length x.fst) : Int)) = true →
 (decide (a ≥ (↑(List.length x.snd.fst) : Int)) = true → false = decide (x.fst = x.snd.fst)) ∧
 (decide (a ≥ (↑(List.length x.snd.fst) : Int)) = false →
 ((0 : Int) ≤ a ∧ a < (↑(List.length x.fst) : Int)) ∧
 ((0 : Int) ≤ a ∧ a < (↑(List.length x.snd.fst) : Int)) ∧
 ((!Ty.beq t35 (List.getD x.fst (Int.toNat a) (Ty.dflt t35))
 (List.getD x.snd.fst (Int.toNat a) (Ty.dflt t35))) =
 true →
 false = decide (x.fst = x.snd.fst)) ∧
 ((!Ty.beq t35 (List.getD x.fst (Int.toNat a) (Ty.dflt t35))
 (List.getD x.snd.fst (Int.toNat a) (Ty.dflt t35))) =
 false →
 (IntKind.wrap IntKind.i64 (a + (1 : Int)) = IntKind.wrap IntKind.i64 (a + (1 : Int)) ∧
 x.snd.fst = x.snd.fst ∧
 x.fst = x.fst ∧ (↑(List.length x.fst) : Int) = (↑(List.length x.fst) : Int)) ∧
 Z (IntKind.wrap IntKind.i64 (a + (1 : Int)), ()) ∧
 μ (IntKind.wrap IntKind.i64 (a + (1 : Int)), ()) < μ (a, ())))) ∧
 (decide (a < (↑(List.length x.fst) : Int)) = false →
 ((↑(List.length x.fst) : Int) == (↑(List.length x.snd.fst) : Int)) = decide (x.fst = x.snd.fst))
theorem vcEq14 : fnVC E14 Try.f14 (bodyOf Try.f14) cSame = vc14 := by kernel_rfl
/- fn 15 -/
def hs15 : List (Nat × Nat × Hint) := []
def nm15 : List Nat := [3000000023]
noncomputable def E15 : Env := env tab [(22, cClone)] [] noGl hs15 nm15
def vc15 : Prop :=
 ∀ (x : Option (Int × List Anc × List (Int × Anc × Unit) × Unit) × Unit),
 List.length (allA x.fst) ≤ (10000 : Nat) →
 (Option.isNone x.fst = true → [] = allA x.fst) ∧
 (Option.isNone x.fst = false →
 Option.isSome x.fst = true ∧
 List.length (List.getD (optL x.fst) (0 : Nat) (Ty.dflt t60)).snd.fst ≤ (10000 : Nat) ∧
 (List.getD (optL x.fst) (0 : Nat) (Ty.dflt t60)).snd.fst = allA x.fst)
theorem vcEq15 : fnVC E15 Try.f15 (bodyOf Try.f15) cAll = vc15 := by kernel_rfl
/- fn 17 -/
def hs17 : List (Nat × Nat × Hint) := [(0, 10, ⟨[.rowS 7 900000007 t36 36, .slot 46 t3], [1, 6, 44, 45], [], []⟩)]
def nm17 : List Nat := [3000000023]
noncomputable def E17 : Env := env tab [(27, cNormal), (28, cDelta), (15, cAll), (29, cMap), (9, cNew)] [] noGl hs17 nm17
def vc17 : Prop :=
 ∀
 (x :
 Option (Int × List Anc × List (Int × Anc × Unit) × Unit) ×
 List Chg × Unit),
 List.length (allA x.fst) ≤ (10000 : Nat) ∧
 (0 : Int) ≤ lenA x.fst ∧ lenA x.fst ≤ (1099511627776 : Int) ∧ List.length x.snd.fst ≤ (1000 : Nat) →
 (Option.isSome x.fst = true →
 Option.isSome x.fst = true ∧
 List.length x.snd.fst ≤ maxLen ∧
 ((!normal x.snd.fst) = true → (none, (4 : Int), ()) = shiftA x.fst x.snd.fst) ∧
 ((!normal x.snd.fst) = false →
 (decide ((↑(List.length x.snd.fst) : Int) > (0 : Int)) = true →
 ((0 : Int) ≤ IntKind.wrap IntKind.i64 ((↑(List.length x.snd.fst) : Int) - (1 : Int)) ∧
 IntKind.wrap IntKind.i64 ((↑(List.length x.snd.fst) : Int) - (1 : Int)) <
 (↑(List.length x.snd.fst) : Int)) ∧
 (decide
 ((List.getD x.snd.fst
 (Int.toNat
 (IntKind.wrap IntKind.i64 ((↑(List.length x.snd.fst) : Int) - (1 : Int))))
 (Ty.dflt t51)).fst.snd.fst >
 (List.getD (optL x.fst) (0 : Nat) (Ty.dflt t60)).fst) =
 true →
 (none, (1 : Int), ()) = shiftA x.fst x.snd.fst) ∧
 (decide
 ((List.getD x.snd.fst
 (Int.toNat
 (IntKind.wrap IntKind.i64 ((↑(List.length x.snd.fst) : Int) - (1 : Int))))
 (Ty.dflt t51)).fst.snd.fst >
 (List.getD (optL x.fst) (0 : Nat) (Ty.dflt t60)).fst) =
 false →
 List.length x.snd.fst ≤ maxLen ∧
 (decide
 (IntKind.wrap IntKind.i64
 ((List.getD (optL x.fst) (0 : Nat) (Ty.dflt t60)).fst + delta x.snd.fst) >
 (1099511627776 : Int)) =
 true →
 (none, (1 : Int), ()) = shiftA x.fst x.snd.fst) ∧
 (decide
 (IntKind.wrap IntKind.i64
 ((List.getD (optL x.fst) (0 : Nat) (Ty.dflt t60)).fst + delta x.snd.fst) >
 (1099511627776 : Int)) =
 false →
 List.length (allA x.fst) ≤ (10000 : Nat) ∧
 (((0 : Int) = (0 : Int) ∧
 True ∧
 x.snd.fst = x.snd.fst ∧
 (List.getD (optL x.fst) (0 : Nat) (Ty.dflt t60)).fst =
 (List.getD (optL x.fst) (0 : Nat) (Ty.dflt t60)).fst ∧
 allA x.fst = allA x.fst ∧
 (↑(List.length (allA x.fst)) : Int) =
 (↑(List.length (allA x.fst)) : Int)) ∧
 True ∧ True) ∧
 ∃ (Z : List Anc × Int × Unit → Prop),
 ∃ (μ : List Anc × Int × Unit → Nat),
 Z ([], (0 : Int), ()) ∧
 ∀ (a : List Anc) (a_1 : Int),
 Z (a, a_1, ()) →
 (decide (a_1 < (↑(List.length (allA x.fst)) : Int)) = true →
 ((0 : Int) ≤ a_1 ∧ a_1 < (↑(List.length (allA x.fst)) : Int)) ∧
 List.length x.snd.fst ≤ maxLen ∧
 (List.length a +
 List.length
 [((List.getD (allA x.fst) (Int.toNat a_1)
 (Ty.dflt t36)).fst,
 (mapP x.snd.fst
 (List.getD (allA x.fst) (Int.toNat a_1)
 (Ty.dflt t36)).snd.fst
 (List.getD (allA x.fst) (Int.toNat a_1)
 (Ty.dflt t36)).snd.snd.fst).fst,
 (List.getD (allA x.fst) (Int.toNat a_1)
 (Ty.dflt t36)).snd.snd)]) *
 (24 : Nat) ≤
 (140737488355328 : Nat) ∧
 List.length a +
 List.length
 [((List.getD (allA x.fst) (Int.toNat a_1)
 (Ty.dflt t36)).fst,
 (mapP x.snd.fst
 (List.getD (allA x.fst) (Int.toNat a_1)
 (Ty.dflt t36)).snd.fst
 (List.getD (allA x.fst) (Int.toNat a_1)
 (Ty.dflt t36)).snd.snd.fst).fst,
 (List.getD (allA x.fst) (Int.toNat a_1)
 (Ty.dflt t36)).snd.snd)] ≤
 maxLen ∧
 ((IntKind.wrap IntKind.i64 (a_1 + (1 : Int)) =
 IntKind.wrap IntKind.i64 (a_1 + (1 : Int)) ∧
 True ∧
 x.snd.fst = x.snd.fst ∧
 (List.getD (optL x.fst) (0 : Nat)
 (Ty.dflt t60)).fst =
 (List.getD (optL x.fst) (0 : Nat)
 (Ty.dflt t60)).fst ∧
 allA x.fst = allA x.fst ∧
 (↑(List.length (allA x.fst)) : Int) =
 (↑(List.length (allA x.fst)) : Int)) ∧
 a ++
 [((List.getD (allA x.fst) (Int.toNat a_1)
 (Ty.dflt t36)).fst,
 (mapP x.snd.fst
 (List.getD (allA x.fst) (Int.toNat a_1)
 (Ty.dflt t36)).snd.fst
 (List.getD (allA x.fst) (Int.toNat a_1)
 (Ty.dflt t36)).snd.snd.fst).fst,
 (List.getD (allA x.fst) (Int.toNat a_1)
 (Ty.dflt t36)).snd.snd)] =
 a ++
 [((List.getD (allA x.fst) (Int.toNat a_1)
 (Ty.dflt t36)).fst,
 (mapP x.snd.fst
 (List.getD (allA x.fst) (Int.toNat a_1)
 (Ty.dflt t36)).snd.fst
 (List.getD (allA x.fst) (Int.toNat a_1)
 (Ty.dflt t36)).snd.snd.fst).fst,
 (List.getD (allA x.fst) (Int.toNat a_1)
 (Ty.dflt t36)).snd.snd)] ∧
 True) ∧
 Z
 (a ++
 [((List.getD (allA x.fst) (Int.toNat a_1)
 (Ty.dflt t36)).fst,
 (mapP x.snd.fst
 (List.getD (allA x.fst) (Int.toNat a_1)
 (Ty.dflt t36)).snd.fst
 (List.getD (allA x.fst) (Int.toNat a_1)
 (Ty.dflt t36)).snd.snd.fst).fst,
 (List.getD (allA x.fst) (Int.toNat a_1)
 (Ty.dflt t36)).snd.snd)],
 IntKind.wrap IntKind.i64 (a_1 + (1 : Int)), ()) ∧
 μ
 (a ++
 [((List.getD (allA x.fst) (Int.toNat a_1)
 (Ty.dflt t36)).fst,
 (mapP x.snd.fst
 (List.getD (allA x.fst) (Int.toNat a_1)
 (Ty.dflt t36)).snd.fst
 (List.getD (allA x.fst) (Int.toNat a_1)
 (Ty.dflt t36)).snd.snd.fst).fst,
 (List.getD (allA x.fst) (Int.toNat a_1)
 (Ty.dflt t36)).snd.snd)],
 IntKind.wrap IntKind.i64 (a_1 + (1 : Int)), ()) <
 μ (a, a_1, ())) ∧
 (decide (a_1 < (↑(List.length (allA x.fst)) : Int)) = false →
 List.length x.snd.fst ≤ maxLen ∧
 List.length a ≤ maxLen ∧
 newA
 (IntKind.wrap IntKind.i64
 ((List.getD (optL x.fst) (0 : Nat) (Ty.dflt t60)).fst +
 delta x.snd.fst))
 a =
 shiftA x.fst x.snd.fst)))) ∧
 (decide ((↑(List.length x.snd.fst) : Int) > (0 : Int)) = false →
 List.length x.snd.fst ≤ maxLen ∧
 (decide
 (IntKind.wrap IntKind.i64
 ((List.getD (optL x.fst) (0 : Nat) (Ty.dflt t60)).fst + delta x.snd.fst) >
 (1099511627776 : Int)) =
 true →
 (none, (1 : Int), ()) = shiftA x.fst x.snd.fst) ∧
 (decide
 (IntKind.wrap IntKind.i64
 ((List.getD (optL x.fst) (0 : Nat) (Ty.dflt t60)).fst + delta x.snd.fst) >
 (1099511627776 : Int)) =
 false →
 List.length (allA x.fst) ≤ (10000 : Nat) ∧
 (((0 : Int) = (0 : Int) ∧
 True ∧
 x.snd.fst = x.snd.fst ∧
 (List.getD (optL x.fst) (0 : Nat) (Ty.dflt t60)).fst =
 (List.getD (optL x.fst) (0 : Nat) (Ty.dflt t60)).fst ∧
 allA x.fst = allA x.fst ∧
 (↑(List.length (allA x.fst)) : Int) = (↑(List.length (allA x.fst)) : Int)) ∧
 True ∧ True) ∧
 ∃ (Z : List Anc × Int × Unit → Prop),
 ∃ (μ : List Anc × Int × Unit → Nat),
 Z ([], (0 : Int), ()) ∧
 ∀ (a : List Anc) (a_1 : Int),
 Z (a, a_1, ()) →
 (decide (a_1 < (↑(List.length (allA x.fst)) : Int)) = true →
 ((0 : Int) ≤ a_1 ∧ a_1 < (↑(List.length (allA x.fst)) : Int)) ∧
 List.length x.snd.fst ≤ maxLen ∧
 (List.length a +
 List.length
 [((List.getD (allA x.fst) (Int.toNat a_1) (Ty.dflt t36)).fst,
 (mapP x.snd.fst
 (List.getD (allA x.fst) (Int.toNat a_1)
 (Ty.dflt t36)).snd.fst
 (List.getD (allA x.fst) (Int.toNat a_1)
 (Ty.dflt t36)).snd.snd.fst).fst,
 (List.getD (allA x.fst) (Int.toNat a_1)
 (Ty.dflt t36)).snd.snd)]) *
 (24 : Nat) ≤
 (140737488355328 : Nat) ∧
 List.length a +
 List.length
 [((List.getD (allA x.fst) (Int.toNat a_1) (Ty.dflt t36)).fst,
 (mapP x.snd.fst
 (List.getD (allA x.fst) (Int.toNat a_1)
 (Ty.dflt t36)).snd.fst
 (List.getD (allA x.fst) (Int.toNat a_1)
 (Ty.dflt t36)).snd.snd.fst).fst,
 (List.getD (allA x.fst) (Int.toNat a_1)
 (Ty.dflt t36)).snd.snd)] ≤
 maxLen ∧
 ((IntKind.wrap IntKind.i64 (a_1 + (1 : Int)) =
 IntKind.wrap IntKind.i64 (a_1 + (1 : Int)) ∧
 True ∧
 x.snd.fst = x.snd.fst ∧
 (List.getD (optL x.fst) (0 : Nat) (Ty.dflt t60)).fst =
 (List.getD (optL x.fst) (0 : Nat) (Ty.dflt t60)).fst ∧
 allA x.fst = allA x.fst ∧
 (↑(List.length (allA x.fst)) : Int) =
 (↑(List.length (allA x.fst)) : Int)) ∧
 a ++
 [((List.getD (allA x.fst) (Int.toNat a_1)
 (Ty.dflt t36)).fst,
 (mapP x.snd.fst
 (List.getD (allA x.fst) (Int.toNat a_1)
 (Ty.dflt t36)).snd.fst
 (List.getD (allA x.fst) (Int.toNat a_1)
 (Ty.dflt t36)).snd.snd.fst).fst,
 (List.getD (allA x.fst) (Int.toNat a_1)
 (Ty.dflt t36)).snd.snd)] =
 a ++
 [((List.getD (allA x.fst) (Int.toNat a_1)
 (Ty.dflt t36)).fst,
 (mapP x.snd.fst
 (List.getD (allA x.fst) (Int.toNat a_1)
 (Ty.dflt t36)).snd.fst
 (List.getD (allA x.fst) (Int.toNat a_1)
 (Ty.dflt t36)).snd.snd.fst).fst,
 (List.getD (allA x.fst) (Int.toNat a_1)
 (Ty.dflt t36)).snd.snd)] ∧
 True) ∧
 Z
 (a ++
 [((List.getD (allA x.fst) (Int.toNat a_1)
 (Ty.dflt t36)).fst,
 (mapP x.snd.fst
 (List.getD (allA x.fst) (Int.toNat a_1)
 (Ty.dflt t36)).snd.fst
 (List.getD (allA x.fst) (Int.toNat a_1)
 (Ty.dflt t36)).snd.snd.fst).fst,
 (List.getD (allA x.fst) (Int.toNat a_1)
 (Ty.dflt t36)).snd.snd)],
 IntKind.wrap IntKind.i64 (a_1 + (1 : Int)), ()) ∧
 μ
 (a ++
 [((List.getD (allA x.fst) (Int.toNat a_1)
 (Ty.dflt t36)).fst,
 (mapP x.snd.fst
 (List.getD (allA x.fst) (Int.toNat a_1)
 (Ty.dflt t36)).snd.fst
 (List.getD (allA x.fst) (Int.toNat a_1)
 (Ty.dflt t36)).snd.snd.fst).fst,
 (List.getD (allA x.fst) (Int.toNat a_1)
 (Ty.dflt t36)).snd.snd)],
 IntKind.wrap IntKind.i64 (a_1 + (1 : Int)), ()) <
 μ (a, a_1, ())) ∧
 (decide (a_1 < (↑(List.length (allA x.fst)) : Int)) = false →
 List.length x.snd.fst ≤ maxLen ∧
 List.length a ≤ maxLen ∧
 newA
 (IntKind.wrap IntKind.i64
 ((List.getD (optL x.fst) (0 : Nat) (Ty.dflt t60)).fst +
 delta x.snd.fst))
 a =
 shiftA x.fst x.snd.fst))))) ∧
 (Option.isSome x.fst = false →
 List.length x.snd.fst ≤ maxLen ∧
 ((!normal x.snd.fst) = true → (none, (4 : Int), ()) = shiftA x.fst x.snd.fst) ∧
 ((!normal x.snd.fst) = false →
 (decide ((↑(List.length x.snd.fst) : Int) > (0 : Int)) = true →
 ((0 : Int) ≤ IntKind.wrap IntKind.i64 ((↑(List.length x.snd.fst) : Int) - (1 : Int)) ∧
 IntKind.wrap IntKind.i64 ((↑(List.length x.snd.fst) : Int) - (1 : Int)) <
 (↑(List.length x.snd.fst) : Int)) ∧
 (decide
 ((List.getD x.snd.fst
 (Int.toNat
 (IntKind.wrap IntKind.i64 ((↑(List.length x.snd.fst) : Int) - (1 : Int))))
 (Ty.dflt t51)).fst.snd.fst >
 (0 : Int)) =
 true →
 (none, (1 : Int), ()) = shiftA x.fst x.snd.fst) ∧
 (decide
 ((List.getD x.snd.fst
 (Int.toNat
 (IntKind.wrap IntKind.i64 ((↑(List.length x.snd.fst) : Int) - (1 : Int))))
 (Ty.dflt t51)).fst.snd.fst >
 (0 : Int)) =
 false →
 List.length x.snd.fst ≤ maxLen ∧
 (decide (IntKind.wrap IntKind.i64 ((0 : Int) + delta x.snd.fst) > (1099511627776 : Int)) =
 true →
 (none, (1 : Int), ()) = shiftA x.fst x.snd.fst) ∧
 (decide (IntKind.wrap IntKind.i64 ((0 : Int) + delta x.snd.fst) > (1099511627776 : Int)) =
 false →
 List.length (allA x.fst) ≤ (10000 : Nat) ∧
 (((0 : Int) = (0 : Int) ∧
 True ∧
 x.snd.fst = x.snd.fst ∧
 (0 : Int) = (0 : Int) ∧
 allA x.fst = allA x.fst ∧
 (↑(List.length (allA x.fst)) : Int) =
 (↑(List.length (allA x.fst)) : Int)) ∧
 True ∧ True) ∧
 ∃ (Z : List Anc × Int × Unit → Prop),
 ∃ (μ : List Anc × Int × Unit → Nat),
 Z ([], (0 : Int), ()) ∧
 ∀ (a : List Anc) (a_1 : Int),
 Z (a, a_1, ()) →
 (decide (a_1 < (↑(List.length (allA x.fst)) : Int)) = true →
 ((0 : Int) ≤ a_1 ∧ a_1 < (↑(List.length (allA x.fst)) : Int)) ∧
 List.length x.snd.fst ≤ maxLen ∧
 (List.length a +
 List.length
 [((List.getD (allA x.fst) (Int.toNat a_1)
 (Ty.dflt t36)).fst,
 (mapP x.snd.fst
 (List.getD (allA x.fst) (Int.toNat a_1)
 (Ty.dflt t36)).snd.fst
 (List.getD (allA x.fst) (Int.toNat a_1)
 (Ty.dflt t36)).snd.snd.fst).fst,
 (List.getD (allA x.fst) (Int.toNat a_1)
 (Ty.dflt t36)).snd.snd)]) *
 (24 : Nat) ≤
 (140737488355328 : Nat) ∧
 List.length a +
 List.length
 [((List.getD (allA x.fst) (Int.toNat a_1)
 (Ty.dflt t36)).fst,
 (mapP x.snd.fst
 (List.getD (allA x.fst) (Int.toNat a_1)
 (Ty.dflt t36)).snd.fst
 (List.getD (allA x.fst) (Int.toNat a_1)
 (Ty.dflt t36)).snd.snd.fst).fst,
 (List.getD (allA x.fst) (Int.toNat a_1)
 (Ty.dflt t36)).snd.snd)] ≤
 maxLen ∧
 ((IntKind.wrap IntKind.i64 (a_1 + (1 : Int)) =
 IntKind.wrap IntKind.i64 (a_1 + (1 : Int)) ∧
 True ∧
 x.snd.fst = x.snd.fst ∧
 (0 : Int) = (0 : Int) ∧
 allA x.fst = allA x.fst ∧
 (↑(List.length (allA x.fst)) : Int) =
 (↑(List.length (allA x.fst)) : Int)) ∧
 a ++
 [((List.getD (allA x.fst) (Int.toNat a_1)
 (Ty.dflt t36)).fst,
 (mapP x.snd.fst
 (List.getD (allA x.fst) (Int.toNat a_1)
 (Ty.dflt t36)).snd.fst
 (List.getD (allA x.fst) (Int.toNat a_1)
 (Ty.dflt t36)).snd.snd.fst).fst,
 (List.getD (allA x.fst) (Int.toNat a_1)
 (Ty.dflt t36)).snd.snd)] =
 a ++
 [((List.getD (allA x.fst) (Int.toNat a_1)
 (Ty.dflt t36)).fst,
 (mapP x.snd.fst
 (List.getD (allA x.fst) (Int.toNat a_1)
 (Ty.dflt t36)).snd.fst
 (List.getD (allA x.fst) (Int.toNat a_1)
 (Ty.dflt t36)).snd.snd.fst).fst,
 (List.getD (allA x.fst) (Int.toNat a_1)
 (Ty.dflt t36)).snd.snd)] ∧
 True) ∧
 Z
 (a ++
 [((List.getD (allA x.fst) (Int.toNat a_1)
 (Ty.dflt t36)).fst,
 (mapP x.snd.fst
 (List.getD (allA x.fst) (Int.toNat a_1)
 (Ty.dflt t36)).snd.fst
 (List.getD (allA x.fst) (Int.toNat a_1)
 (Ty.dflt t36)).snd.snd.fst).fst,
 (List.getD (allA x.fst) (Int.toNat a_1)
 (Ty.dflt t36)).snd.snd)],
 IntKind.wrap IntKind.i64 (a_1 + (1 : Int)), ()) ∧
 μ
 (a ++
 [((List.getD (allA x.fst) (Int.toNat a_1)
 (Ty.dflt t36)).fst,
 (mapP x.snd.fst
 (List.getD (allA x.fst) (Int.toNat a_1)
 (Ty.dflt t36)).snd.fst
 (List.getD (allA x.fst) (Int.toNat a_1)
 (Ty.dflt t36)).snd.snd.fst).fst,
 (List.getD (allA x.fst) (Int.toNat a_1)
 (Ty.dflt t36)).snd.snd)],
 IntKind.wrap IntKind.i64 (a_1 + (1 : Int)), ()) <
 μ (a, a_1, ())) ∧
 (decide (a_1 < (↑(List.length (allA x.fst)) : Int)) = false →
 List.length x.snd.fst ≤ maxLen ∧
 List.length a ≤ maxLen ∧
 newA (IntKind.wrap IntKind.i64 ((0 : Int) + delta x.snd.fst)) a =
 shiftA x.fst x.snd.fst)))) ∧
 (decide ((↑(List.length x.snd.fst) : Int) > (0 : Int)) = false →
 List.length x.snd.fst ≤ maxLen ∧
 (decide (IntKind.wrap IntKind.i64 ((0 : Int) + delta x.snd.fst) > (1099511627776 : Int)) = true →
 (none, (1 : Int), ()) = shiftA x.fst x.snd.fst) ∧
 (decide (IntKind.wrap IntKind.i64 ((0 : Int) + delta x.snd.fst) > (1099511627776 : Int)) = false →
 List.length (allA x.fst) ≤ (10000 : Nat) ∧
 (((0 : Int) = (0 : Int) ∧
 True ∧
 x.snd.fst = x.snd.fst ∧
 (0 : Int) = (0 : Int) ∧
 allA x.fst = allA x.fst ∧
 (↑(List.length (allA x.fst)) : Int) = (↑(List.length (allA x.fst)) : Int)) ∧
 True ∧ True) ∧
 ∃ (Z : List Anc × Int × Unit → Prop),
 ∃ (μ : List Anc × Int × Unit → Nat),
 Z ([], (0 : Int), ()) ∧
 ∀ (a : List Anc) (a_1 : Int),
 Z (a, a_1, ()) →
 (decide (a_1 < (↑(List.length (allA x.fst)) : Int)) = true →
 ((0 : Int) ≤ a_1 ∧ a_1 < (↑(List.length (allA x.fst)) : Int)) ∧
 List.length x.snd.fst ≤ maxLen ∧
 (List.length a +
 List.length
 [((List.getD (allA x.fst) (Int.toNat a_1) (Ty.dflt t36)).fst,
 (mapP x.snd.fst
 (List.getD (allA x.fst) (Int.toNat a_1)
 (Ty.dflt t36)).snd.fst
 (List.getD (allA x.fst) (Int.toNat a_1)
 (Ty.dflt t36)).snd.snd.fst).fst,
 (List.getD (allA x.fst) (Int.toNat a_1)
 (Ty.dflt t36)).snd.snd)]) *
 (24 : Nat) ≤
 (140737488355328 : Nat) ∧
 List.length a +
 List.length
 [((List.getD (allA x.fst) (Int.toNat a_1) (Ty.dflt t36)).fst,
 (mapP x.snd.fst
 (List.getD (allA x.fst) (Int.toNat a_1)
 (Ty.dflt t36)).snd.fst
 (List.getD (allA x.fst) (Int.toNat a_1)
 (Ty.dflt t36)).snd.snd.fst).fst,
 (List.getD (allA x.fst) (Int.toNat a_1)
 (Ty.dflt t36)).snd.snd)] ≤
 maxLen ∧
 ((IntKind.wrap IntKind.i64 (a_1 + (1 : Int)) =
 IntKind.wrap IntKind.i64 (a_1 + (1 : Int)) ∧
 True ∧
 x.snd.fst = x.snd.fst ∧
 (0 : Int) = (0 : Int) ∧
 allA x.fst = allA x.fst ∧
 (↑(List.length (allA x.fst)) : Int) =
 (↑(List.length (allA x.fst)) : Int)) ∧
 a ++
 [((List.getD (allA x.fst) (Int.toNat a_1)
 (Ty.dflt t36)).fst,
 (mapP x.snd.fst
 (List.getD (allA x.fst) (Int.toNat a_1)
 (Ty.dflt t36)).snd.fst
 (List.getD (allA x.fst) (Int.toNat a_1)
 (Ty.dflt t36)).snd.snd.fst).fst,
 (List.getD (allA x.fst) (Int.toNat a_1)
 (Ty.dflt t36)).snd.snd)] =
 a ++
 [((List.getD (allA x.fst) (Int.toNat a_1)
 (Ty.dflt t36)).fst,
 (mapP x.snd.fst
 (List.getD (allA x.fst) (Int.toNat a_1)
 (Ty.dflt t36)).snd.fst
 (List.getD (allA x.fst) (Int.toNat a_1)
 (Ty.dflt t36)).snd.snd.fst).fst,
 (List.getD (allA x.fst) (Int.toNat a_1)
 (Ty.dflt t36)).snd.snd)] ∧
 True) ∧
 Z
 (a ++
 [((List.getD (allA x.fst) (Int.toNat a_1)
 (Ty.dflt t36)).fst,
 (mapP x.snd.fst
 (List.getD (allA x.fst) (Int.toNat a_1)
 (Ty.dflt t36)).snd.fst
 (List.getD (allA x.fst) (Int.toNat a_1)
 (Ty.dflt t36)).snd.snd.fst).fst,
 (List.getD (allA x.fst) (Int.toNat a_1)
 (Ty.dflt t36)).snd.snd)],
 IntKind.wrap IntKind.i64 (a_1 + (1 : Int)), ()) ∧
 μ
 (a ++
 [((List.getD (allA x.fst) (Int.toNat a_1)
 (Ty.dflt t36)).fst,
 (mapP x.snd.fst
 (List.getD (allA x.fst) (Int.toNat a_1)
 (Ty.dflt t36)).snd.fst
 (List.getD (allA x.fst) (Int.toNat a_1)
 (Ty.dflt t36)).snd.snd.fst).fst,
 (List.getD (allA x.fst) (Int.toNat a_1)
 (Ty.dflt t36)).snd.snd)],
 IntKind.wrap IntKind.i64 (a_1 + (1 : Int)), ()) <
 μ (a, a_1, ())) ∧
 (decide (a_1 < (↑(List.length (allA x.fst)) : Int)) = false →
 List.length x.snd.fst ≤ maxLen ∧
 List.length a ≤ maxLen ∧
 newA (IntKind.wrap IntKind.i64 ((0 : Int) + delta x.snd.fst)) a =
 shiftA x.fst x.snd.fst)))))
theorem vcEq17 : fnVC E17 Try.f17 (bodyOf Try.f17) cShift = vc17 := by kernel_rfl
/- fn 18 -/
def hs18 : List (Nat × Nat × Hint) := [(0, 2, ⟨[.slot 9 t3], [0, 7, 8], [], []⟩)]
def nm18 : List Nat := [3000000023]
noncomputable def E18 : Env := env tab [(30, cWithin)] [] noGl hs18 nm18
def vc18 : Prop :=
 ∀ (x : List Chg × Unit),
 List.length x.fst ≤ maxLen →
 ((0 : Int) = (0 : Int) ∧
 x.fst = x.fst ∧ x.fst = x.fst ∧ (↑(List.length x.fst) : Int) = (↑(List.length x.fst) : Int)) ∧
 ∃ (Z : Int × Unit → Prop),
 ∃ (μ : Int × Unit → Nat),
 Z ((0 : Int), ()) ∧
 ∀ (a : Int),
 Z (a, ()) →
 (decide (a < (↑(List.length x.fst) : Int)) = true →
 ((0 : Int) ≤ a ∧ a < (↑(List.length x.fst) : Int)) ∧
 True ∧
 ((!within (List.getD x.fst (Int.toNat a) (Ty.dflt t70)).fst) = true → false = normal x.fst) ∧
 ((!within (List.getD x.fst (Int.toNat a) (Ty.dflt t70)).fst) = false →
 True ∧
 ((!within (List.getD x.fst (Int.toNat a) (Ty.dflt t70)).snd.fst) = true →
 false = normal x.fst) ∧
 ((!within (List.getD x.fst (Int.toNat a) (Ty.dflt t70)).snd.fst) = false →
 (((List.getD x.fst (Int.toNat a) (Ty.dflt t70)).fst.fst ==
 (List.getD x.fst (Int.toNat a) (Ty.dflt t70)).fst.snd.fst) =
 true →
 (((List.getD x.fst (Int.toNat a) (Ty.dflt t70)).snd.fst.fst ==
 (List.getD x.fst (Int.toNat a) (Ty.dflt t70)).snd.fst.snd.fst) =
 true →
 false = normal x.fst) ∧
 (((List.getD x.fst (Int.toNat a) (Ty.dflt t70)).snd.fst.fst ==
 (List.getD x.fst (Int.toNat a) (Ty.dflt t70)).snd.fst.snd.fst) =
 false →
 (decide (a > (0 : Int)) = true →
 ((0 : Int) ≤ IntKind.wrap IntKind.i64 (a - (1 : Int)) ∧
 IntKind.wrap IntKind.i64 (a - (1 : Int)) <
 (↑(List.length x.fst) : Int)) ∧
 (decide
 (IntKind.wrap IntKind.i64
 ((List.getD x.fst (Int.toNat a) (Ty.dflt t70)).fst.fst -
 (List.getD x.fst
 (Int.toNat
 (IntKind.wrap IntKind.i64 (a - (1 : Int))))
 (Ty.dflt t70)).fst.snd.fst) <
 (0 : Int)) =
 true →
 false = normal x.fst) ∧
 (decide
 (IntKind.wrap IntKind.i64
 ((List.getD x.fst (Int.toNat a) (Ty.dflt t70)).fst.fst -
 (List.getD x.fst
 (Int.toNat
 (IntKind.wrap IntKind.i64 (a - (1 : Int))))
 (Ty.dflt t70)).fst.snd.fst) <
 (0 : Int)) =
 false →
 ((IntKind.wrap IntKind.i64
 ((List.getD x.fst (Int.toNat a) (Ty.dflt t70)).fst.fst -
 (List.getD x.fst
 (Int.toNat
 (IntKind.wrap IntKind.i64 (a - (1 : Int))))
 (Ty.dflt t70)).fst.snd.fst) !=
 IntKind.wrap IntKind.i64
 ((List.getD x.fst (Int.toNat a)
 (Ty.dflt t70)).snd.fst.fst -
 (List.getD x.fst
 (Int.toNat
 (IntKind.wrap IntKind.i64 (a - (1 : Int))))
 (Ty.dflt t70)).snd.fst.snd.fst)) =
 true →
 false = normal x.fst) ∧
 ((IntKind.wrap IntKind.i64
 ((List.getD x.fst (Int.toNat a) (Ty.dflt t70)).fst.fst -
 (List.getD x.fst
 (Int.toNat
 (IntKind.wrap IntKind.i64 (a - (1 : Int))))
 (Ty.dflt t70)).fst.snd.fst) !=
 IntKind.wrap IntKind.i64
 ((List.getD x.fst (Int.toNat a)
 (Ty.dflt t70)).snd.fst.fst -
 (List.getD x.fst
 (Int.toNat
 (IntKind.wrap IntKind.i64 (a - (1 : Int))))
 (Ty.dflt t70)).snd.fst.snd.fst)) =
 false →
 (decide (a > (0 : Int)) = true →
 ((IntKind.wrap IntKind.i64
 ((List.getD x.fst (Int.toNat a)
 (Ty.dflt t70)).fst.fst -
 (List.getD x.fst
 (Int.toNat
 (IntKind.wrap IntKind.i64
 (a - (1 : Int))))
 (Ty.dflt t70)).fst.snd.fst) ==
 (0 : Int)) =
 true →
 false = normal x.fst) ∧
 ((IntKind.wrap IntKind.i64
 ((List.getD x.fst (Int.toNat a)
 (Ty.dflt t70)).fst.fst -
 (List.getD x.fst
 (Int.toNat
 (IntKind.wrap IntKind.i64
 (a - (1 : Int))))
 (Ty.dflt t70)).fst.snd.fst) ==
 (0 : Int)) =
 false →
 (IntKind.wrap IntKind.i64 (a + (1 : Int)) =
 IntKind.wrap IntKind.i64 (a + (1 : Int)) ∧
 x.fst = x.fst ∧
 x.fst = x.fst ∧
 (↑(List.length x.fst) : Int) =
 (↑(List.length x.fst) : Int)) ∧
 Z (IntKind.wrap IntKind.i64 (a + (1 : Int)), ()) ∧
 μ (IntKind.wrap IntKind.i64 (a + (1 : Int)), ()) <
 μ (a, ()))) ∧
 (decide (a > (0 : Int)) = false →
 (IntKind.wrap IntKind.i64 (a + (1 : Int)) =
 IntKind.wrap IntKind.i64 (a + (1 : Int)) ∧
 x.fst = x.fst ∧
 x.fst = x.fst ∧
 (↑(List.length x.fst) : Int) =
 (↑(List.length x.fst) : Int)) ∧
 Z (IntKind.wrap IntKind.i64 (a + (1 : Int)), ()) ∧
 μ (IntKind.wrap IntKind.i64 (a + (1 : Int)), ()) <
 μ (a, ()))))) ∧
 (decide (a > (0 : Int)) = false →
 (decide
 (IntKind.wrap IntKind.i64
 ((List.getD x.fst (Int.toNat a) (Ty.dflt t70)).fst.fst -
 (0 : Int)) <
 (0 : Int)) =
 true →
 false = normal x.fst) ∧
 (decide
 (IntKind.wrap IntKind.i64
 ((List.getD x.fst (Int.toNat a) (Ty.dflt t70)).fst.fst -
 (0 : Int)) <
 (0 : Int)) =
 false →
 ((IntKind.wrap IntKind.i64
 ((List.getD x.fst (Int.toNat a) (Ty.dflt t70)).fst.fst -
 (0 : Int)) !=
 IntKind.wrap IntKind.i64
 ((List.getD x.fst (Int.toNat a) (Ty.dflt t70)).snd.fst.fst -
 (0 : Int))) =
 true →
 false = normal x.fst) ∧
 ((IntKind.wrap IntKind.i64
 ((List.getD x.fst (Int.toNat a) (Ty.dflt t70)).fst.fst -
 (0 : Int)) !=
 IntKind.wrap IntKind.i64
 ((List.getD x.fst (Int.toNat a) (Ty.dflt t70)).snd.fst.fst -
 (0 : Int))) =
 false →
 (decide (a > (0 : Int)) = true →
 ((IntKind.wrap IntKind.i64
 ((List.getD x.fst (Int.toNat a)
 (Ty.dflt t70)).fst.fst -
 (0 : Int)) ==
 (0 : Int)) =
 true →
 false = normal x.fst) ∧
 ((IntKind.wrap IntKind.i64
 ((List.getD x.fst (Int.toNat a)
 (Ty.dflt t70)).fst.fst -
 (0 : Int)) ==
 (0 : Int)) =
 false →
 (IntKind.wrap IntKind.i64 (a + (1 : Int)) =
 IntKind.wrap IntKind.i64 (a + (1 : Int)) ∧
 x.fst = x.fst ∧
 x.fst = x.fst ∧
 (↑(List.length x.fst) : Int) =
 (↑(List.length x.fst) : Int)) ∧
 Z (IntKind.wrap IntKind.i64 (a + (1 : Int)), ()) ∧
 μ (IntKind.wrap IntKind.i64 (a + (1 : Int)), ()) <
 μ (a, ()))) ∧
 (decide (a > (0 : Int)) = false →
 (IntKind.wrap IntKind.i64 (a + (1 : Int)) =
 IntKind.wrap IntKind.i64 (a + (1 : Int)) ∧
 x.fst = x.fst ∧
 x.fst = x.fst ∧
 (↑(List.length x.fst) : Int) =
 (↑(List.length x.fst) : Int)) ∧
 Z (IntKind.wrap IntKind.i64 (a + (1 : Int)), ()) ∧
 μ (IntKind.wrap IntKind.i64 (a + (1 : Int)), ()) <
 μ (a, ()))))))) ∧
 (((List.getD x.fst (Int.toNat a) (Ty.dflt t70)).fst.fst ==
 (List.getD x.fst (Int.toNat a) (Ty.dflt t70)).fst.snd.fst) =
 false →
 (decide (a > (0 : Int)) = true →
 ((0 : Int) ≤ IntKind.wrap IntKind.i64 (a - (1 : Int)) ∧
 IntKind.wrap IntKind.i64 (a - (1 : Int)) < (↑(List.length x.fst) : Int)) ∧
 (decide
 (IntKind.wrap IntKind.i64
 ((List.getD x.fst (Int.toNat a) (Ty.dflt t70)).fst.fst -
 (List.getD x.fst
 (Int.toNat (IntKind.wrap IntKind.i64 (a - (1 : Int))))
 (Ty.dflt t70)).fst.snd.fst) <
 (0 : Int)) =
 true →
 false = normal x.fst) ∧
 (decide
 (IntKind.wrap IntKind.i64
 ((List.getD x.fst (Int.toNat a) (Ty.dflt t70)).fst.fst -
 (List.getD x.fst
 (Int.toNat (IntKind.wrap IntKind.i64 (a - (1 : Int))))
 (Ty.dflt t70)).fst.snd.fst) <
 (0 : Int)) =
 false →
 ((IntKind.wrap IntKind.i64
 ((List.getD x.fst (Int.toNat a) (Ty.dflt t70)).fst.fst -
 (List.getD x.fst
 (Int.toNat
 (IntKind.wrap IntKind.i64 (a - (1 : Int))))
 (Ty.dflt t70)).fst.snd.fst) !=
 IntKind.wrap IntKind.i64
 ((List.getD x.fst (Int.toNat a) (Ty.dflt t70)).snd.fst.fst -
 (List.getD x.fst
 (Int.toNat
 (IntKind.wrap IntKind.i64 (a - (1 : Int))))
 (Ty.dflt t70)).snd.fst.snd.fst)) =
 true →
 false = normal x.fst) ∧
 ((IntKind.wrap IntKind.i64
 ((List.getD x.fst (Int.toNat a) (Ty.dflt t70)).fst.fst -
 (List.getD x.fst
 (Int.toNat
 (IntKind.wrap IntKind.i64 (a - (1 : Int))))
 (Ty.dflt t70)).fst.snd.fst) !=
 IntKind.wrap IntKind.i64
 ((List.getD x.fst (Int.toNat a) (Ty.dflt t70)).snd.fst.fst -
 (List.getD x.fst
 (Int.toNat
 (IntKind.wrap IntKind.i64 (a - (1 : Int))))
 (Ty.dflt t70)).snd.fst.snd.fst)) =
 false →
 (decide (a > (0 : Int)) = true →
 ((IntKind.wrap IntKind.i64
 ((List.getD x.fst (Int.toNat a)
 (Ty.dflt t70)).fst.fst -
 (List.getD x.fst
 (Int.toNat
 (IntKind.wrap IntKind.i64
 (a - (1 : Int))))
 (Ty.dflt t70)).fst.snd.fst) ==
 (0 : Int)) =
 true →
 false = normal x.fst) ∧
 ((IntKind.wrap IntKind.i64
 ((List.getD x.fst (Int.toNat a)
 (Ty.dflt t70)).fst.fst -
 (List.getD x.fst
 (Int.toNat
 (IntKind.wrap IntKind.i64
 (a - (1 : Int))))
 (Ty.dflt t70)).fst.snd.fst) ==
 (0 : Int)) =
 false →
 (IntKind.wrap IntKind.i64 (a + (1 : Int)) =
 IntKind.wrap IntKind.i64 (a + (1 : Int)) ∧
 x.fst = x.fst ∧
 x.fst = x.fst ∧
 (↑(List.length x.fst) : Int) =
 (↑(List.length x.fst) : Int)) ∧
 Z (IntKind.wrap IntKind.i64 (a + (1 : Int)), ()) ∧
 μ (IntKind.wrap IntKind.i64 (a + (1 : Int)), ()) <
 μ (a, ()))) ∧
 (decide (a > (0 : Int)) = false →
 (IntKind.wrap IntKind.i64 (a + (1 : Int)) =
 IntKind.wrap IntKind.i64 (a + (1 : Int)) ∧
 x.fst = x.fst ∧
 x.fst = x.fst ∧
 (↑(List.length x.fst) : Int) =
 (↑(List.length x.fst) : Int)) ∧
 Z (IntKind.wrap IntKind.i64 (a + (1 : Int)), ()) ∧
 μ (IntKind.wrap IntKind.i64 (a + (1 : Int)), ()) <
 μ (a, ()))))) ∧
 (decide (a > (0 : Int)) = false →
 (decide
 (IntKind.wrap IntKind.i64
 ((List.getD x.fst (Int.toNat a) (Ty.dflt t70)).fst.fst -
 (0 : Int)) <
 (0 : Int)) =
 true →
 false = normal x.fst) ∧
 (decide
 (IntKind.wrap IntKind.i64
 ((List.getD x.fst (Int.toNat a) (Ty.dflt t70)).fst.fst -
 (0 : Int)) <
 (0 : Int)) =
 false →
 ((IntKind.wrap IntKind.i64
 ((List.getD x.fst (Int.toNat a) (Ty.dflt t70)).fst.fst -
 (0 : Int)) !=
 IntKind.wrap IntKind.i64
 ((List.getD x.fst (Int.toNat a) (Ty.dflt t70)).snd.fst.fst -
 (0 : Int))) =
 true →
 false = normal x.fst) ∧
 ((IntKind.wrap IntKind.i64
 ((List.getD x.fst (Int.toNat a) (Ty.dflt t70)).fst.fst -
 (0 : Int)) !=
 IntKind.wrap IntKind.i64
 ((List.getD x.fst (Int.toNat a) (Ty.dflt t70)).snd.fst.fst -
 (0 : Int))) =
 false →
 (decide (a > (0 : Int)) = true →
 ((IntKind.wrap IntKind.i64
 ((List.getD x.fst (Int.toNat a) (Ty.dflt t70)).fst.fst -
 (0 : Int)) ==
 (0 : Int)) =
 true →
 false = normal x.fst) ∧
 ((IntKind.wrap IntKind.i64
 ((List.getD x.fst (Int.toNat a) (Ty.dflt t70)).fst.fst -
 (0 : Int)) ==
 (0 : Int)) =
 false →
 (IntKind.wrap IntKind.i64 (a + (1 : Int)) =
 IntKind.wrap IntKind.i64 (a + (1 : Int)) ∧
 x.fst = x.fst ∧
 x.fst = x.fst ∧
 (↑(List.length x.fst) : Int) =
 (↑(List.length x.fst) : Int)) ∧
 Z (IntKind.wrap IntKind.i64 (a + (1 : Int)), ()) ∧
 μ (IntKind.wrap IntKind.i64 (a + (1 : Int)), ()) <
 μ (a, ()))) ∧
 (decide (a > (0 : Int)) = false →
 (IntKind.wrap IntKind.i64 (a + (1 : Int)) =
 IntKind.wrap IntKind.i64 (a + (1 : Int)) ∧
 x.fst = x.fst ∧
 x.fst = x.fst ∧
 (↑(List.length x.fst) : Int) =
 (↑(List.length x.fst) : Int)) ∧
 Z (IntKind.wrap IntKind.i64 (a + (1 : Int)), ()) ∧
 μ (IntKind.wrap IntKind.i64 (a + (1 : Int)), ()) <
 μ (a, ()))))))))) ∧
 (decide (a < (↑(List.length x.fst) : Int)) = false → true = normal x.fst)
theorem vcEq18 : fnVC E18 Try.f18 (bodyOf Try.f18) cRefNormal = vc18 := by kernel_rfl
/- fn 19 -/
def hs19 : List (Nat × Nat × Hint) := [(0, 3, ⟨[.rowS 3 900000003 t70 70, .slot 8 t3], [6, 7], [], []⟩)]
def nm19 : List Nat := [3000000023]
noncomputable def E19 : Env := env tab [] [] noGl hs19 nm19
def vc19 : Prop :=
 ∀ (x : List Chg × Unit),
 List.length x.fst ≤ (1000000000 : Nat) →
 (((0 : Int) = (0 : Int) ∧ True ∧ x.fst = x.fst ∧ (↑(List.length x.fst) : Int) = (↑(List.length x.fst) : Int)) ∧
 True ∧ True) ∧
 ∃ (Z : List Chg × Int × Unit → Prop),
 ∃ (μ : List Chg × Int × Unit → Nat),
 Z ([], (0 : Int), ()) ∧
 ∀ (a : List Chg) (a_1 : Int),
 Z (a, a_1, ()) →
 (decide (a_1 < (↑(List.length x.fst) : Int)) = true →
 ((0 : Int) ≤ a_1 ∧ a_1 < (↑(List.length x.fst) : Int)) ∧
 (List.length a + List.length [List.getD x.fst (Int.toNat a_1) (Ty.dflt t51)]) * (32 : Nat) ≤
 (140737488355328 : Nat) ∧
 List.length a + List.length [List.getD x.fst (Int.toNat a_1) (Ty.dflt t51)] ≤ maxLen ∧
 ((IntKind.wrap IntKind.i64 (a_1 + (1 : Int)) = IntKind.wrap IntKind.i64 (a_1 + (1 : Int)) ∧
 True ∧ x.fst = x.fst ∧ (↑(List.length x.fst) : Int) = (↑(List.length x.fst) : Int)) ∧
 a ++ [List.getD x.fst (Int.toNat a_1) (Ty.dflt t51)] =
 a ++ [List.getD x.fst (Int.toNat a_1) (Ty.dflt t51)] ∧
 True) ∧
 Z
 (a ++ [List.getD x.fst (Int.toNat a_1) (Ty.dflt t51)],
 IntKind.wrap IntKind.i64 (a_1 + (1 : Int)), ()) ∧
 μ
 (a ++ [List.getD x.fst (Int.toNat a_1) (Ty.dflt t51)],
 IntKind.wrap IntKind.i64 (a_1 + (1 : Int)), ()) <
 μ (a, a_1, ())) ∧
 (decide (a_1 < (↑(List.length x.fst) : Int)) = false → a = x.fst)
theorem vcEq19 : fnVC E19 Try.f19 (bodyOf Try.f19) cChanges = vc19 := by kernel_rfl
/- fn 20 -/
def hs20 : List (Nat × Nat × Hint) := [(0, 3, ⟨[.rowS 5 900000005 t35 35, .slot 10 t3], [1, 8, 9], [], []⟩)]
def nm20 : List Nat := [3000000023, 4000000005]
noncomputable def E20 : Env := env tab [(31, cRefMap), (12, cOrdered)] [] noGl hs20 nm20
def vc20 : Prop :=
 ∀ (x : List Anc × List Chg × Unit),
 (List.length x.fst ≤ (10000 : Nat) ∧
 List.length x.snd.fst ≤ (1000 : Nat) ∧
 normal x.snd.fst = true ∧
 ∀ (a : Ty.den t35), a ∈ x.fst → (0 : Int) ≤ a.snd.fst ∧ a.snd.fst ≤ (1099511627776 : Int)) →
 (((0 : Int) = (0 : Int) ∧
 True ∧ x.snd.fst = x.snd.fst ∧ x.fst = x.fst ∧ (↑(List.length x.fst) : Int) = (↑(List.length x.fst) : Int)) ∧
 True ∧ True) ∧
 ∃ (Z : List Anc × Int × Unit → Prop),
 ∃ (μ : List Anc × Int × Unit → Nat),
 Z ([], (0 : Int), ()) ∧
 ∀ (a : List Anc) (a_1 : Int),
 Z (a, a_1, ()) →
 (decide (a_1 < (↑(List.length x.fst) : Int)) = true →
 ((0 : Int) ≤ a_1 ∧ a_1 < (↑(List.length x.fst) : Int)) ∧
 (((((List.length x.snd.fst ≤ maxLen ∧
 normal x.snd.fst = true ∧
 (0 : Int) ≤ (List.getD x.fst (Int.toNat a_1) (Ty.dflt t35)).snd.fst ∧
 (List.getD x.fst (Int.toNat a_1) (Ty.dflt t35)).snd.fst ≤ (1099511627776 : Int)) ∧
 (List.length a +
 List.length
 [((List.getD x.fst (Int.toNat a_1) (Ty.dflt t35)).fst,
 refMap (List.getD x.fst (Int.toNat a_1) (Ty.dflt t35)).snd.fst
 (List.getD x.fst (Int.toNat a_1) (Ty.dflt t35)).snd.snd.fst x.snd.fst
 (0 : Int),
 (List.getD x.fst (Int.toNat a_1) (Ty.dflt t35)).snd.snd)]) *
 (24 : Nat) ≤
 (140737488355328 : Nat) ∧
 List.length a +
 List.length
 [((List.getD x.fst (Int.toNat a_1) (Ty.dflt t35)).fst,
 refMap (List.getD x.fst (Int.toNat a_1) (Ty.dflt t35)).snd.fst
 (List.getD x.fst (Int.toNat a_1) (Ty.dflt t35)).snd.snd.fst x.snd.fst
 (0 : Int),
 (List.getD x.fst (Int.toNat a_1) (Ty.dflt t35)).snd.snd)] ≤
 maxLen ∧
 ((IntKind.wrap IntKind.i64 (a_1 + (1 : Int)) =
 IntKind.wrap IntKind.i64 (a_1 + (1 : Int)) ∧
 True ∧
 x.snd.fst = x.snd.fst ∧
 x.fst = x.fst ∧
 (↑(List.length x.fst) : Int) = (↑(List.length x.fst) : Int)) ∧
 a ++
 [((List.getD x.fst (Int.toNat a_1) (Ty.dflt t35)).fst,
 refMap (List.getD x.fst (Int.toNat a_1) (Ty.dflt t35)).snd.fst
 (List.getD x.fst (Int.toNat a_1) (Ty.dflt t35)).snd.snd.fst
 x.snd.fst (0 : Int),
 (List.getD x.fst (Int.toNat a_1) (Ty.dflt t35)).snd.snd)] =
 a ++
 [((List.getD x.fst (Int.toNat a_1) (Ty.dflt t35)).fst,
 refMap (List.getD x.fst (Int.toNat a_1) (Ty.dflt t35)).snd.fst
 (List.getD x.fst (Int.toNat a_1) (Ty.dflt t35)).snd.snd.fst
 x.snd.fst (0 : Int),
 (List.getD x.fst (Int.toNat a_1) (Ty.dflt t35)).snd.snd)] ∧
 True) ∧
 Z
 (a ++
 [((List.getD x.fst (Int.toNat a_1) (Ty.dflt t35)).fst,
 refMap (List.getD x.fst (Int.toNat a_1) (Ty.dflt t35)).snd.fst
 (List.getD x.fst (Int.toNat a_1) (Ty.dflt t35)).snd.snd.fst
 x.snd.fst (0 : Int),
 (List.getD x.fst (Int.toNat a_1) (Ty.dflt t35)).snd.snd)],
 IntKind.wrap IntKind.i64 (a_1 + (1 : Int)), ()) ∧
 μ
 (a ++
 [((List.getD x.fst (Int.toNat a_1) (Ty.dflt t35)).fst,
 refMap (List.getD x.fst (Int.toNat a_1) (Ty.dflt t35)).snd.fst
 (List.getD x.fst (Int.toNat a_1) (Ty.dflt t35)).snd.snd.fst
 x.snd.fst (0 : Int),
 (List.getD x.fst (Int.toNat a_1) (Ty.dflt t35)).snd.snd)],
 IntKind.wrap IntKind.i64 (a_1 + (1 : Int)), ()) <
 μ (a, a_1, ())) ∧
 (List.length x.snd.fst ≤ maxLen ∧
 normal x.snd.fst = true ∧
 (0 : Int) ≤ (List.getD x.fst (Int.toNat a_1) (Ty.dflt t35)).snd.fst ∧
 (List.getD x.fst (Int.toNat a_1) (Ty.dflt t35)).snd.fst ≤ (1099511627776 : Int)) ∧
 (List.length a +
 List.length
 [((List.getD x.fst (Int.toNat a_1) (Ty.dflt t35)).fst,
 refMap (List.getD x.fst (Int.toNat a_1) (Ty.dflt t35)).snd.fst
 (List.getD x.fst (Int.toNat a_1) (Ty.dflt t35)).snd.snd.fst x.snd.fst
 (0 : Int),
 (List.getD x.fst (Int.toNat a_1) (Ty.dflt t35)).snd.snd)]) *
 (24 : Nat) ≤
 (140737488355328 : Nat) ∧
 List.length a +
 List.length
 [((List.getD x.fst (Int.toNat a_1) (Ty.dflt t35)).fst,
 refMap (List.getD x.fst (Int.toNat a_1) (Ty.dflt t35)).snd.fst
 (List.getD x.fst (Int.toNat a_1) (Ty.dflt t35)).snd.snd.fst x.snd.fst
 (0 : Int),
 (List.getD x.fst (Int.toNat a_1) (Ty.dflt t35)).snd.snd)] ≤
 maxLen ∧
 ((IntKind.wrap IntKind.i64 (a_1 + (1 : Int)) =
 IntKind.wrap IntKind.i64 (a_1 + (1 : Int)) ∧
 True ∧
 x.snd.fst = x.snd.fst ∧
 x.fst = x.fst ∧
 (↑(List.length x.fst) : Int) = (↑(List.length x.fst) : Int)) ∧
 a ++
 [((List.getD x.fst (Int.toNat a_1) (Ty.dflt t35)).fst,
 refMap (List.getD x.fst (Int.toNat a_1) (Ty.dflt t35)).snd.fst
 (List.getD x.fst (Int.toNat a_1) (Ty.dflt t35)).snd.snd.fst
 x.snd.fst (0 : Int),
 (List.getD x.fst (Int.toNat a_1) (Ty.dflt t35)).snd.snd)] =
 a ++
 [((List.getD x.fst (Int.toNat a_1) (Ty.dflt t35)).fst,
 refMap (List.getD x.fst (Int.toNat a_1) (Ty.dflt t35)).snd.fst
 (List.getD x.fst (Int.toNat a_1) (Ty.dflt t35)).snd.snd.fst
 x.snd.fst (0 : Int),
 (List.getD x.fst (Int.toNat a_1) (Ty.dflt t35)).snd.snd)] ∧
 True) ∧
 Z
 (a ++
 [((List.getD x.fst (Int.toNat a_1) (Ty.dflt t35)).fst,
 refMap (List.getD x.fst (Int.toNat a_1) (Ty.dflt t35)).snd.fst
 (List.getD x.fst (Int.toNat a_1) (Ty.dflt t35)).snd.snd.fst
 x.snd.fst (0 : Int),
 (List.getD x.fst (Int.toNat a_1) (Ty.dflt t35)).snd.snd)],
 IntKind.wrap IntKind.i64 (a_1 + (1 : Int)), ()) ∧
 μ
 (a ++
 [((List.getD x.fst (Int.toNat a_1) (Ty.dflt t35)).fst,
 refMap (List.getD x.fst (Int.toNat a_1) (Ty.dflt t35)).snd.fst
 (List.getD x.fst (Int.toNat a_1) (Ty.dflt t35)).snd.snd.fst
 x.snd.fst (0 : Int),
 (List.getD x.fst (Int.toNat a_1) (Ty.dflt t35)).snd.snd)],
 IntKind.wrap IntKind.i64 (a_1 + (1 : Int)), ()) <
 μ (a, a_1, ())) ∧
 (List.length x.snd.fst ≤ maxLen ∧
 normal x.snd.fst = true ∧
 (0 : Int) ≤ (List.getD x.fst (Int.toNat a_1) (Ty.dflt t35)).snd.fst ∧
 (List.getD x.fst (Int.toNat a_1) (Ty.dflt t35)).snd.fst ≤ (1099511627776 : Int)) ∧
 (List.length a +
 List.length
 [((List.getD x.fst (Int.toNat a_1) (Ty.dflt t35)).fst,
 refMap (List.getD x.fst (Int.toNat a_1) (Ty.dflt t35)).snd.fst
 (List.getD x.fst (Int.toNat a_1) (Ty.dflt t35)).snd.snd.fst x.snd.fst
 (0 : Int),
 (List.getD x.fst (Int.toNat a_1) (Ty.dflt t35)).snd.snd)]) *
 (24 : Nat) ≤
 (140737488355328 : Nat) ∧
 List.length a +
 List.length
 [((List.getD x.fst (Int.toNat a_1) (Ty.dflt t35)).fst,
 refMap (List.getD x.fst (Int.toNat a_1) (Ty.dflt t35)).snd.fst
 (List.getD x.fst (Int.toNat a_1) (Ty.dflt t35)).snd.snd.fst x.snd.fst
 (0 : Int),
 (List.getD x.fst (Int.toNat a_1) (Ty.dflt t35)).snd.snd)] ≤
 maxLen ∧
 ((IntKind.wrap IntKind.i64 (a_1 + (1 : Int)) =
 IntKind.wrap IntKind.i64 (a_1 + (1 : Int)) ∧
 True ∧
 x.snd.fst = x.snd.fst ∧
 x.fst = x.fst ∧
 (↑(List.length x.fst) : Int) = (↑(List.length x.fst) : Int)) ∧
 a ++
 [((List.getD x.fst (Int.toNat a_1) (Ty.dflt t35)).fst,
 refMap (List.getD x.fst (Int.toNat a_1) (Ty.dflt t35)).snd.fst
 (List.getD x.fst (Int.toNat a_1) (Ty.dflt t35)).snd.snd.fst x.snd.fst
 (0 : Int),
 (List.getD x.fst (Int.toNat a_1) (Ty.dflt t35)).snd.snd)] =
 a ++
 [((List.getD x.fst (Int.toNat a_1) (Ty.dflt t35)).fst,
 refMap (List.getD x.fst (Int.toNat a_1) (Ty.dflt t35)).snd.fst
 (List.getD x.fst (Int.toNat a_1) (Ty.dflt t35)).snd.snd.fst x.snd.fst
 (0 : Int),
 (List.getD x.fst (Int.toNat a_1) (Ty.dflt t35)).snd.snd)] ∧
 True) ∧
 Z
 (a ++
 [((List.getD x.fst (Int.toNat a_1) (Ty.dflt t35)).fst,
 refMap (List.getD x.fst (Int.toNat a_1) (Ty.dflt t35)).snd.fst
 (List.getD x.fst (Int.toNat a_1) (Ty.dflt t35)).snd.snd.fst x.snd.fst
 (0 : Int),
 (List.getD x.fst (Int.toNat a_1) (Ty.dflt t35)).snd.snd)],
 IntKind.wrap IntKind.i64 (a_1 + (1 : Int)), ()) ∧
 μ
 (a ++
 [((List.getD x.fst (Int.toNat a_1) (Ty.dflt t35)).fst,
 refMap (List.getD x.fst (Int.toNat a_1) (Ty.dflt t35)).snd.fst
 (List.getD x.fst (Int.toNat a_1) (Ty.dflt t35)).snd.snd.fst
 x.snd.fst (0 : Int),
 (List.getD x.fst (Int.toNat a_1) (Ty.dflt t35)).snd.snd)],
 IntKind.wrap IntKind.i64 (a_1 + (1 : Int)), ()) <
 μ (a, a_1, ())) ∧
 ((((List.length x.snd.fst ≤ maxLen ∧
 normal x.snd.fst = true ∧
 (0 : Int) ≤ (List.getD x.fst (Int.toNat a_1) (Ty.dflt t35)).snd.fst ∧
 (List.getD x.fst (Int.toNat a_1) (Ty.dflt t35)).snd.fst ≤
 (1099511627776 : Int)) ∧
 (List.length a +
 List.length
 [((List.getD x.fst (Int.toNat a_1) (Ty.dflt t35)).fst,
 refMap (List.getD x.fst (Int.toNat a_1) (Ty.dflt t35)).snd.fst
 (List.getD x.fst (Int.toNat a_1) (Ty.dflt t35)).snd.snd.fst x.snd.fst
 (0 : Int),
 (List.getD x.fst (Int.toNat a_1) (Ty.dflt t35)).snd.snd)]) *
 (24 : Nat) ≤
 (140737488355328 : Nat) ∧
 List.length a +
 List.length
 [((List.getD x.fst (Int.toNat a_1) (Ty.dflt t35)).fst,
 refMap (List.getD x.fst (Int.toNat a_1) (Ty.dflt t35)).snd.fst
 (List.getD x.fst (Int.toNat a_1) (Ty.dflt t35)).snd.snd.fst x.snd.fst
 (0 : Int),
 (List.getD x.fst (Int.toNat a_1) (Ty.dflt t35)).snd.snd)] ≤
 maxLen ∧
 ((IntKind.wrap IntKind.i64 (a_1 + (1 : Int)) =
 IntKind.wrap IntKind.i64 (a_1 + (1 : Int)) ∧
 True ∧
 x.snd.fst = x.snd.fst ∧
 x.fst = x.fst ∧
 (↑(List.length x.fst) : Int) = (↑(List.length x.fst) : Int)) ∧
 a ++
 [((List.getD x.fst (Int.toNat a_1) (Ty.dflt t35)).fst,
 refMap (List.getD x.fst (Int.toNat a_1) (Ty.dflt t35)).snd.fst
 (List.getD x.fst (Int.toNat a_1) (Ty.dflt t35)).snd.snd.fst
 x.snd.fst (0 : Int),
 (List.getD x.fst (Int.toNat a_1) (Ty.dflt t35)).snd.snd)] =
 a ++
 [((List.getD x.fst (Int.toNat a_1) (Ty.dflt t35)).fst,
 refMap (List.getD x.fst (Int.toNat a_1) (Ty.dflt t35)).snd.fst
 (List.getD x.fst (Int.toNat a_1) (Ty.dflt t35)).snd.snd.fst
 x.snd.fst (0 : Int),
 (List.getD x.fst (Int.toNat a_1) (Ty.dflt t35)).snd.snd)] ∧
 True) ∧
 Z
 (a ++
 [((List.getD x.fst (Int.toNat a_1) (Ty.dflt t35)).fst,
 refMap (List.getD x.fst (Int.toNat a_1) (Ty.dflt t35)).snd.fst
 (List.getD x.fst (Int.toNat a_1) (Ty.dflt t35)).snd.snd.fst
 x.snd.fst (0 : Int),
 (List.getD x.fst (Int.toNat a_1) (Ty.dflt t35)).snd.snd)],
 IntKind.wrap IntKind.i64 (a_1 + (1 : Int)), ()) ∧
 μ
 (a ++
 [((List.getD x.fst (Int.toNat a_1) (Ty.dflt t35)).fst,
 refMap (List.getD x.fst (Int.toNat a_1) (Ty.dflt t35)).snd.fst
 (List.getD x.fst (Int.toNat a_1) (Ty.dflt t35)).snd.snd.fst
 x.snd.fst (0 : Int),
 (List.getD x.fst (Int.toNat a_1) (Ty.dflt t35)).snd.snd)],
 IntKind.wrap IntKind.i64 (a_1 + (1 : Int)), ()) <
 μ (a, a_1, ())) ∧
 (List.length x.snd.fst ≤ maxLen ∧
 normal x.snd.fst = true ∧
 (0 : Int) ≤ (List.getD x.fst (Int.toNat a_1) (Ty.dflt t35)).snd.fst ∧
 (List.getD x.fst (Int.toNat a_1) (Ty.dflt t35)).snd.fst ≤
 (1099511627776 : Int)) ∧
 (List.length a +
 List.length
 [((List.getD x.fst (Int.toNat a_1) (Ty.dflt t35)).fst,
 refMap (List.getD x.fst (Int.toNat a_1) (Ty.dflt t35)).snd.fst
 (List.getD x.fst (Int.toNat a_1) (Ty.dflt t35)).snd.snd.fst x.snd.fst
 (0 : Int),
 (List.getD x.fst (Int.toNat a_1) (Ty.dflt t35)).snd.snd)]) *
 (24 : Nat) ≤
 (140737488355328 : Nat) ∧
 List.length a +
 List.length
 [((List.getD x.fst (Int.toNat a_1) (Ty.dflt t35)).fst,
 refMap (List.getD x.fst (Int.toNat a_1) (Ty.dflt t35)).snd.fst
 (List.getD x.fst (Int.toNat a_1) (Ty.dflt t35)).snd.snd.fst x.snd.fst
 (0 : Int),
 (List.getD x.fst (Int.toNat a_1) (Ty.dflt t35)).snd.snd)] ≤
 maxLen ∧
 ((IntKind.wrap IntKind.i64 (a_1 + (1 : Int)) =
 IntKind.wrap IntKind.i64 (a_1 + (1 : Int)) ∧
 True ∧
 x.snd.fst = x.snd.fst ∧
 x.fst = x.fst ∧
 (↑(List.length x.fst) : Int) = (↑(List.length x.fst) : Int)) ∧
 a ++
 [((List.getD x.fst (Int.toNat a_1) (Ty.dflt t35)).fst,
 refMap (List.getD x.fst (Int.toNat a_1) (Ty.dflt t35)).snd.fst
 (List.getD x.fst (Int.toNat a_1) (Ty.dflt t35)).snd.snd.fst
 x.snd.fst (0 : Int),
 (List.getD x.fst (Int.toNat a_1) (Ty.dflt t35)).snd.snd)] =
 a ++
 [((List.getD x.fst (Int.toNat a_1) (Ty.dflt t35)).fst,
 refMap (List.getD x.fst (Int.toNat a_1) (Ty.dflt t35)).snd.fst
 (List.getD x.fst (Int.toNat a_1) (Ty.dflt t35)).snd.snd.fst
 x.snd.fst (0 : Int),
 (List.getD x.fst (Int.toNat a_1) (Ty.dflt t35)).snd.snd)] ∧
 True) ∧
 Z
 (a ++
 [((List.getD x.fst (Int.toNat a_1) (Ty.dflt t35)).fst,
 refMap (List.getD x.fst (Int.toNat a_1) (Ty.dflt t35)).snd.fst
 (List.getD x.fst (Int.toNat a_1) (Ty.dflt t35)).snd.snd.fst
 x.snd.fst (0 : Int),
 (List.getD x.fst (Int.toNat a_1) (Ty.dflt t35)).snd.snd)],
 IntKind.wrap IntKind.i64 (a_1 + (1 : Int)), ()) ∧
 μ
 (a ++
 [((List.getD x.fst (Int.toNat a_1) (Ty.dflt t35)).fst,
 refMap (List.getD x.fst (Int.toNat a_1) (Ty.dflt t35)).snd.fst
 (List.getD x.fst (Int.toNat a_1) (Ty.dflt t35)).snd.snd.fst
 x.snd.fst (0 : Int),
 (List.getD x.fst (Int.toNat a_1) (Ty.dflt t35)).snd.snd)],
 IntKind.wrap IntKind.i64 (a_1 + (1 : Int)), ()) <
 μ (a, a_1, ())) ∧
 (List.length x.snd.fst ≤ maxLen ∧
 normal x.snd.fst = true ∧
 (0 : Int) ≤ (List.getD x.fst (Int.toNat a_1) (Ty.dflt t35)).snd.fst ∧
 (List.getD x.fst (Int.toNat a_1) (Ty.dflt t35)).snd.fst ≤ (1099511627776 : Int)) ∧
 (List.length a +
 List.length
 [((List.getD x.fst (Int.toNat a_1) (Ty.dflt t35)).fst,
 refMap (List.getD x.fst (Int.toNat a_1) (Ty.dflt t35)).snd.fst
 (List.getD x.fst (Int.toNat a_1) (Ty.dflt t35)).snd.snd.fst x.snd.fst
 (0 : Int),
 (List.getD x.fst (Int.toNat a_1) (Ty.dflt t35)).snd.snd)]) *
 (24 : Nat) ≤
 (140737488355328 : Nat) ∧
 List.length a +
 List.length
 [((List.getD x.fst (Int.toNat a_1) (Ty.dflt t35)).fst,
 refMap (List.getD x.fst (Int.toNat a_1) (Ty.dflt t35)).snd.fst
 (List.getD x.fst (Int.toNat a_1) (Ty.dflt t35)).snd.snd.fst x.snd.fst
 (0 : Int),
 (List.getD x.fst (Int.toNat a_1) (Ty.dflt t35)).snd.snd)] ≤
 maxLen ∧
 ((IntKind.wrap IntKind.i64 (a_1 + (1 : Int)) =
 IntKind.wrap IntKind.i64 (a_1 + (1 : Int)) ∧
 True ∧
 x.snd.fst = x.snd.fst ∧
 x.fst = x.fst ∧
 (↑(List.length x.fst) : Int) = (↑(List.length x.fst) : Int)) ∧
 a ++
 [((List.getD x.fst (Int.toNat a_1) (Ty.dflt t35)).fst,
 refMap (List.getD x.fst (Int.toNat a_1) (Ty.dflt t35)).snd.fst
 (List.getD x.fst (Int.toNat a_1) (Ty.dflt t35)).snd.snd.fst
 x.snd.fst (0 : Int),
 (List.getD x.fst (Int.toNat a_1) (Ty.dflt t35)).snd.snd)] =
 a ++
 [((List.getD x.fst (Int.toNat a_1) (Ty.dflt t35)).fst,
 refMap (List.getD x.fst (Int.toNat a_1) (Ty.dflt t35)).snd.fst
 (List.getD x.fst (Int.toNat a_1) (Ty.dflt t35)).snd.snd.fst
 x.snd.fst (0 : Int),
 (List.getD x.fst (Int.toNat a_1) (Ty.dflt t35)).snd.snd)] ∧
 True) ∧
 Z
 (a ++
 [((List.getD x.fst (Int.toNat a_1) (Ty.dflt t35)).fst,
 refMap (List.getD x.fst (Int.toNat a_1) (Ty.dflt t35)).snd.fst
 (List.getD x.fst (Int.toNat a_1) (Ty.dflt t35)).snd.snd.fst
 x.snd.fst (0 : Int),
 (List.getD x.fst (Int.toNat a_1) (Ty.dflt t35)).snd.snd)],
 IntKind.wrap IntKind.i64 (a_1 + (1 : Int)), ()) ∧
 μ
 (a ++
 [((List.getD x.fst (Int.toNat a_1) (Ty.dflt t35)).fst,
 refMap (List.getD x.fst (Int.toNat a_1) (Ty.dflt t35)).snd.fst
 (List.getD x.fst (Int.toNat a_1) (Ty.dflt t35)).snd.snd.fst
 x.snd.fst (0 : Int),
 (List.getD x.fst (Int.toNat a_1) (Ty.dflt t35)).snd.snd)],
 IntKind.wrap IntKind.i64 (a_1 + (1 : Int)), ()) <
 μ (a, a_1, ())) ∧
 ((List.length x.snd.fst ≤ maxLen ∧
 normal x.snd.fst = true ∧
 (0 : Int) ≤ (List.getD x.fst (Int.toNat a_1) (Ty.dflt t35)).snd.fst ∧
 (List.getD x.fst (Int.toNat a_1) (Ty.dflt t35)).snd.fst ≤ (1099511627776 : Int)) ∧
 (List.length a +
 List.length
 [((List.getD x.fst (Int.toNat a_1) (Ty.dflt t35)).fst,
 refMap (List.getD x.fst (Int.toNat a_1) (Ty.dflt t35)).snd.fst
 (List.getD x.fst (Int.toNat a_1) (Ty.dflt t35)).snd.snd.fst x.snd.fst
 (0 : Int),
 (List.getD x.fst (Int.toNat a_1) (Ty.dflt t35)).snd.snd)]) *
 (24 : Nat) ≤
 (140737488355328 : Nat) ∧
 List.length a +
 List.length
 [((List.getD x.fst (Int.toNat a_1) (Ty.dflt t35)).fst,
 refMap (List.getD x.fst (Int.toNat a_1) (Ty.dflt t35)).snd.fst
 (List.getD x.fst (Int.toNat a_1) (Ty.dflt t35)).snd.snd.fst x.snd.fst
 (0 : Int),
 (List.getD x.fst (Int.toNat a_1) (Ty.dflt t35)).snd.snd)] ≤
 maxLen ∧
 ((IntKind.wrap IntKind.i64 (a_1 + (1 : Int)) =
 IntKind.wrap IntKind.i64 (a_1 + (1 : Int)) ∧
 True ∧
 x.snd.fst = x.snd.fst ∧
 x.fst = x.fst ∧
 (↑(List.length x.fst) : Int) = (↑(List.length x.fst) : Int)) ∧
 a ++
 [((List.getD x.fst (Int.toNat a_1) (Ty.dflt t35)).fst,
 refMap (List.getD x.fst (Int.toNat a_1) (Ty.dflt t35)).snd.fst
 (List.getD x.fst (Int.toNat a_1) (Ty.dflt t35)).snd.snd.fst
 x.snd.fst (0 : Int),
 (List.getD x.fst (Int.toNat a_1) (Ty.dflt t35)).snd.snd)] =
 a ++
 [((List.getD x.fst (Int.toNat a_1) (Ty.dflt t35)).fst,
 refMap (List.getD x.fst (Int.toNat a_1) (Ty.dflt t35)).snd.fst
 (List.getD x.fst (Int.toNat a_1) (Ty.dflt t35)).snd.snd.fst
 x.snd.fst (0 : Int),
 (List.getD x.fst (Int.toNat a_1) (Ty.dflt t35)).snd.snd)] ∧
 True) ∧
 Z
 (a ++
 [((List.getD x.fst (Int.toNat a_1) (Ty.dflt t35)).fst,
 refMap (List.getD x.fst (Int.toNat a_1) (Ty.dflt t35)).snd.fst
 (List.getD x.fst (Int.toNat a_1) (Ty.dflt t35)).snd.snd.fst
 x.snd.fst (0 : Int),
 (List.getD x.fst (Int.toNat a_1) (Ty.dflt t35)).snd.snd)],
 IntKind.wrap IntKind.i64 (a_1 + (1 : Int)), ()) ∧
 μ
 (a ++
 [((List.getD x.fst (Int.toNat a_1) (Ty.dflt t35)).fst,
 refMap (List.getD x.fst (Int.toNat a_1) (Ty.dflt t35)).snd.fst
 (List.getD x.fst (Int.toNat a_1) (Ty.dflt t35)).snd.snd.fst
 x.snd.fst (0 : Int),
 (List.getD x.fst (Int.toNat a_1) (Ty.dflt t35)).snd.snd)],
 IntKind.wrap IntKind.i64 (a_1 + (1 : Int)), ()) <
 μ (a, a_1, ())) ∧
 (List.length x.snd.fst ≤ maxLen ∧
 normal x.snd.fst = true ∧
 (0 : Int) ≤ (List.getD x.fst (Int.toNat a_1) (Ty.dflt t35)).snd.fst ∧
 (List.getD x.fst (Int.toNat a_1) (Ty.dflt t35)).snd.fst ≤ (1099511627776 : Int)) ∧
 (List.length a +
 List.length
 [((List.getD x.fst (Int.toNat a_1) (Ty.dflt t35)).fst,
 refMap (List.getD x.fst (Int.toNat a_1) (Ty.dflt t35)).snd.fst
 (List.getD x.fst (Int.toNat a_1) (Ty.dflt t35)).snd.snd.fst x.snd.fst
 (0 : Int),
 (List.getD x.fst (Int.toNat a_1) (Ty.dflt t35)).snd.snd)]) *
 (24 : Nat) ≤
 (140737488355328 : Nat) ∧
 List.length a +
 List.length
 [((List.getD x.fst (Int.toNat a_1) (Ty.dflt t35)).fst,
 refMap (List.getD x.fst (Int.toNat a_1) (Ty.dflt t35)).snd.fst
 (List.getD x.fst (Int.toNat a_1) (Ty.dflt t35)).snd.snd.fst x.snd.fst
 (0 : Int),
 (List.getD x.fst (Int.toNat a_1) (Ty.dflt t35)).snd.snd)] ≤
 maxLen ∧
 ((IntKind.wrap IntKind.i64 (a_1 + (1 : Int)) =
 IntKind.wrap IntKind.i64 (a_1 + (1 : Int)) ∧
 True ∧
 x.snd.fst = x.snd.fst ∧
 x.fst = x.fst ∧
 (↑(List.length x.fst) : Int) = (↑(List.length x.fst) : Int)) ∧
 a ++
 [((List.getD x.fst (Int.toNat a_1) (Ty.dflt t35)).fst,
 refMap (List.getD x.fst (Int.toNat a_1) (Ty.dflt t35)).snd.fst
 (List.getD x.fst (Int.toNat a_1) (Ty.dflt t35)).snd.snd.fst
 x.snd.fst (0 : Int),
 (List.getD x.fst (Int.toNat a_1) (Ty.dflt t35)).snd.snd)] =
 a ++
 [((List.getD x.fst (Int.toNat a_1) (Ty.dflt t35)).fst,
 refMap (List.getD x.fst (Int.toNat a_1) (Ty.dflt t35)).snd.fst
 (List.getD x.fst (Int.toNat a_1) (Ty.dflt t35)).snd.snd.fst
 x.snd.fst (0 : Int),
 (List.getD x.fst (Int.toNat a_1) (Ty.dflt t35)).snd.snd)] ∧
 True) ∧
 Z
 (a ++
 [((List.getD x.fst (Int.toNat a_1) (Ty.dflt t35)).fst,
 refMap (List.getD x.fst (Int.toNat a_1) (Ty.dflt t35)).snd.fst
 (List.getD x.fst (Int.toNat a_1) (Ty.dflt t35)).snd.snd.fst
 x.snd.fst (0 : Int),
 (List.getD x.fst (Int.toNat a_1) (Ty.dflt t35)).snd.snd)],
 IntKind.wrap IntKind.i64 (a_1 + (1 : Int)), ()) ∧
 μ
 (a ++
 [((List.getD x.fst (Int.toNat a_1) (Ty.dflt t35)).fst,
 refMap (List.getD x.fst (Int.toNat a_1) (Ty.dflt t35)).snd.fst
 (List.getD x.fst (Int.toNat a_1) (Ty.dflt t35)).snd.snd.fst
 x.snd.fst (0 : Int),
 (List.getD x.fst (Int.toNat a_1) (Ty.dflt t35)).snd.snd)],
 IntKind.wrap IntKind.i64 (a_1 + (1 : Int)), ()) <
 μ (a, a_1, ())) ∧
 (((((List.length x.snd.fst ≤ maxLen ∧
 normal x.snd.fst = true ∧
 (0 : Int) ≤ (List.getD x.fst (Int.toNat a_1) (Ty.dflt t35)).snd.fst ∧
 (List.getD x.fst (Int.toNat a_1) (Ty.dflt t35)).snd.fst ≤
 (1099511627776 : Int)) ∧
 (List.length a +
 List.length
 [((List.getD x.fst (Int.toNat a_1) (Ty.dflt t35)).fst,
 refMap (List.getD x.fst (Int.toNat a_1) (Ty.dflt t35)).snd.fst
 (List.getD x.fst (Int.toNat a_1) (Ty.dflt t35)).snd.snd.fst x.snd.fst
 (0 : Int),
 (List.getD x.fst (Int.toNat a_1) (Ty.dflt t35)).snd.snd)]) *
 (24 : Nat) ≤
 (140737488355328 : Nat) ∧
 List.length a +
 List.length
 [((List.getD x.fst (Int.toNat a_1) (Ty.dflt t35)).fst,
 refMap (List.getD x.fst (Int.toNat a_1) (Ty.dflt t35)).snd.fst
 (List.getD x.fst (Int.toNat a_1) (Ty.dflt t35)).snd.snd.fst x.snd.fst
 (0 : Int),
 (List.getD x.fst (Int.toNat a_1) (Ty.dflt t35)).snd.snd)] ≤
 maxLen ∧
 ((IntKind.wrap IntKind.i64 (a_1 + (1 : Int)) =
 IntKind.wrap IntKind.i64 (a_1 + (1 : Int)) ∧
 True ∧
 x.snd.fst = x.snd.fst ∧
 x.fst = x.fst ∧
 (↑(List.length x.fst) : Int) = (↑(List.length x.fst) : Int)) ∧
 a ++
 [((List.getD x.fst (Int.toNat a_1) (Ty.dflt t35)).fst,
 refMap (List.getD x.fst (Int.toNat a_1) (Ty.dflt t35)).snd.fst
 (List.getD x.fst (Int.toNat a_1) (Ty.dflt t35)).snd.snd.fst
 x.snd.fst (0 : Int),
 (List.getD x.fst (Int.toNat a_1) (Ty.dflt t35)).snd.snd)] =
 a ++
 [((List.getD x.fst (Int.toNat a_1) (Ty.dflt t35)).fst,
 refMap (List.getD x.fst (Int.toNat a_1) (Ty.dflt t35)).snd.fst
 (List.getD x.fst (Int.toNat a_1) (Ty.dflt t35)).snd.snd.fst
 x.snd.fst (0 : Int),
 (List.getD x.fst (Int.toNat a_1) (Ty.dflt t35)).snd.snd)] ∧
 True) ∧
 Z
 (a ++
 [((List.getD x.fst (Int.toNat a_1) (Ty.dflt t35)).fst,
 refMap (List.getD x.fst (Int.toNat a_1) (Ty.dflt t35)).snd.fst
 (List.getD x.fst (Int.toNat a_1) (Ty.dflt t35)).snd.snd.fst
 x.snd.fst (0 : Int),
 (List.getD x.fst (Int.toNat a_1) (Ty.dflt t35)).snd.snd)],
 IntKind.wrap IntKind.i64 (a_1 + (1 : Int)), ()) ∧
 μ
 (a ++
 [((List.getD x.fst (Int.toNat a_1) (Ty.dflt t35)).fst,
 refMap (List.getD x.fst (Int.toNat a_1) (Ty.dflt t35)).snd.fst
 (List.getD x.fst (Int.toNat a_1) (Ty.dflt t35)).snd.snd.fst
 x.snd.fst (0 : Int),
 (List.getD x.fst (Int.toNat a_1) (Ty.dflt t35)).snd.snd)],
 IntKind.wrap IntKind.i64 (a_1 + (1 : Int)), ()) <
 μ (a, a_1, ())) ∧
 (List.length x.snd.fst ≤ maxLen ∧
 normal x.snd.fst = true ∧
 (0 : Int) ≤ (List.getD x.fst (Int.toNat a_1) (Ty.dflt t35)).snd.fst ∧
 (List.getD x.fst (Int.toNat a_1) (Ty.dflt t35)).snd.fst ≤
 (1099511627776 : Int)) ∧
 (List.length a +
 List.length
 [((List.getD x.fst (Int.toNat a_1) (Ty.dflt t35)).fst,
 refMap (List.getD x.fst (Int.toNat a_1) (Ty.dflt t35)).snd.fst
 (List.getD x.fst (Int.toNat a_1) (Ty.dflt t35)).snd.snd.fst x.snd.fst
 (0 : Int),
 (List.getD x.fst (Int.toNat a_1) (Ty.dflt t35)).snd.snd)]) *
 (24 : Nat) ≤
 (140737488355328 : Nat) ∧
 List.length a +
 List.length
 [((List.getD x.fst (Int.toNat a_1) (Ty.dflt t35)).fst,
 refMap (List.getD x.fst (Int.toNat a_1) (Ty.dflt t35)).snd.fst
 (List.getD x.fst (Int.toNat a_1) (Ty.dflt t35)).snd.snd.fst x.snd.fst
 (0 : Int),
 (List.getD x.fst (Int.toNat a_1) (Ty.dflt t35)).snd.snd)] ≤
 maxLen ∧
 ((IntKind.wrap IntKind.i64 (a_1 + (1 : Int)) =
 IntKind.wrap IntKind.i64 (a_1 + (1 : Int)) ∧
 True ∧
 x.snd.fst = x.snd.fst ∧
 x.fst = x.fst ∧
 (↑(List.length x.fst) : Int) = (↑(List.length x.fst) : Int)) ∧
 a ++
 [((List.getD x.fst (Int.toNat a_1) (Ty.dflt t35)).fst,
 refMap (List.getD x.fst (Int.toNat a_1) (Ty.dflt t35)).snd.fst
 (List.getD x.fst (Int.toNat a_1) (Ty.dflt t35)).snd.snd.fst
 x.snd.fst (0 : Int),
 (List.getD x.fst (Int.toNat a_1) (Ty.dflt t35)).snd.snd)] =
 a ++
 [((List.getD x.fst (Int.toNat a_1) (Ty.dflt t35)).fst,
 refMap (List.getD x.fst (Int.toNat a_1) (Ty.dflt t35)).snd.fst
 (List.getD x.fst (Int.toNat a_1) (Ty.dflt t35)).snd.snd.fst
 x.snd.fst (0 : Int),
 (List.getD x.fst (Int.toNat a_1) (Ty.dflt t35)).snd.snd)] ∧
 True) ∧
 Z
 (a ++
 [((List.getD x.fst (Int.toNat a_1) (Ty.dflt t35)).fst,
 refMap (List.getD x.fst (Int.toNat a_1) (Ty.dflt t35)).snd.fst
 (List.getD x.fst (Int.toNat a_1) (Ty.dflt t35)).snd.snd.fst
 x.snd.fst (0 : Int),
 (List.getD x.fst (Int.toNat a_1) (Ty.dflt t35)).snd.snd)],
 IntKind.wrap IntKind.i64 (a_1 + (1 : Int)), ()) ∧
 μ
 (a ++
 [((List.getD x.fst (Int.toNat a_1) (Ty.dflt t35)).fst,
 refMap (List.getD x.fst (Int.toNat a_1) (Ty.dflt t35)).snd.fst
 (List.getD x.fst (Int.toNat a_1) (Ty.dflt t35)).snd.snd.fst
 x.snd.fst (0 : Int),
 (List.getD x.fst (Int.toNat a_1) (Ty.dflt t35)).snd.snd)],
 IntKind.wrap IntKind.i64 (a_1 + (1 : Int)), ()) <
 μ (a, a_1, ())) ∧
 (List.length x.snd.fst ≤ maxLen ∧
 normal x.snd.fst = true ∧
 (0 : Int) ≤ (List.getD x.fst (Int.toNat a_1) (Ty.dflt t35)).snd.fst ∧
 (List.getD x.fst (Int.toNat a_1) (Ty.dflt t35)).snd.fst ≤ (1099511627776 : Int)) ∧
 (List.length a +
 List.length
 [((List.getD x.fst (Int.toNat a_1) (Ty.dflt t35)).fst,
 refMap (List.getD x.fst (Int.toNat a_1) (Ty.dflt t35)).snd.fst
 (List.getD x.fst (Int.toNat a_1) (Ty.dflt t35)).snd.snd.fst x.snd.fst
 (0 : Int),
 (List.getD x.fst (Int.toNat a_1) (Ty.dflt t35)).snd.snd)]) *
 (24 : Nat) ≤
 (140737488355328 : Nat) ∧
 List.length a +
 List.length
 [((List.getD x.fst (Int.toNat a_1) (Ty.dflt t35)).fst,
 refMap (List.getD x.fst (Int.toNat a_1) (Ty.dflt t35)).snd.fst
 (List.getD x.fst (Int.toNat a_1) (Ty.dflt t35)).snd.snd.fst x.snd.fst
 (0 : Int),
 (List.getD x.fst (Int.toNat a_1) (Ty.dflt t35)).snd.snd)] ≤
 maxLen ∧
 ((IntKind.wrap IntKind.i64 (a_1 + (1 : Int)) =
 IntKind.wrap IntKind.i64 (a_1 + (1 : Int)) ∧
 True ∧
 x.snd.fst = x.snd.fst ∧
 x.fst = x.fst ∧
 (↑(List.length x.fst) : Int) = (↑(List.length x.fst) : Int)) ∧
 a ++
 [((List.getD x.fst (Int.toNat a_1) (Ty.dflt t35)).fst,
 refMap (List.getD x.fst (Int.toNat a_1) (Ty.dflt t35)).snd.fst
 (List.getD x.fst (Int.toNat a_1) (Ty.dflt t35)).snd.snd.fst
 x.snd.fst (0 : Int),
 (List.getD x.fst (Int.toNat a_1) (Ty.dflt t35)).snd.snd)] =
 a ++
 [((List.getD x.fst (Int.toNat a_1) (Ty.dflt t35)).fst,
 refMap (List.getD x.fst (Int.toNat a_1) (Ty.dflt t35)).snd.fst
 (List.getD x.fst (Int.toNat a_1) (Ty.dflt t35)).snd.snd.fst
 x.snd.fst (0 : Int),
 (List.getD x.fst (Int.toNat a_1) (Ty.dflt t35)).snd.snd)] ∧
 True) ∧
 Z
 (a ++
 [((List.getD x.fst (Int.toNat a_1) (Ty.dflt t35)).fst,
 refMap (List.getD x.fst (Int.toNat a_1) (Ty.dflt t35)).snd.fst
 (List.getD x.fst (Int.toNat a_1) (Ty.dflt t35)).snd.snd.fst
 x.snd.fst (0 : Int),
 (List.getD x.fst (Int.toNat a_1) (Ty.dflt t35)).snd.snd)],
 IntKind.wrap IntKind.i64 (a_1 + (1 : Int)), ()) ∧
 μ
 (a ++
 [((List.getD x.fst (Int.toNat a_1) (Ty.dflt t35)).fst,
 refMap (List.getD x.fst (Int.toNat a_1) (Ty.dflt t35)).snd.fst
 (List.getD x.fst (Int.toNat a_1) (Ty.dflt t35)).snd.snd.fst
 x.snd.fst (0 : Int),
 (List.getD x.fst (Int.toNat a_1) (Ty.dflt t35)).snd.snd)],
 IntKind.wrap IntKind.i64 (a_1 + (1 : Int)), ()) <
 μ (a, a_1, ())) ∧
 ((((List.length x.snd.fst ≤ maxLen ∧
 normal x.snd.fst = true ∧
 (0 : Int) ≤ (List.getD x.fst (Int.toNat a_1) (Ty.dflt t35)).snd.fst ∧
 (List.getD x.fst (Int.toNat a_1) (Ty.dflt t35)).snd.fst ≤
 (1099511627776 : Int)) ∧
 (List.length a +
 List.length
 [((List.getD x.fst (Int.toNat a_1) (Ty.dflt t35)).fst,
 refMap (List.getD x.fst (Int.toNat a_1) (Ty.dflt t35)).snd.fst
 (List.getD x.fst (Int.toNat a_1) (Ty.dflt t35)).snd.snd.fst
 x.snd.fst (0 : Int),
 (List.getD x.fst (Int.toNat a_1) (Ty.dflt t35)).snd.snd)]) *
 (24 : Nat) ≤
 (140737488355328 : Nat) ∧
 List.length a +
 List.length
 [((List.getD x.fst (Int.toNat a_1) (Ty.dflt t35)).fst,
 refMap (List.getD x.fst (Int.toNat a_1) (Ty.dflt t35)).snd.fst
 (List.getD x.fst (Int.toNat a_1) (Ty.dflt t35)).snd.snd.fst
 x.snd.fst (0 : Int),
 (List.getD x.fst (Int.toNat a_1) (Ty.dflt t35)).snd.snd)] ≤
 maxLen ∧
 ((IntKind.wrap IntKind.i64 (a_1 + (1 : Int)) =
 IntKind.wrap IntKind.i64 (a_1 + (1 : Int)) ∧
 True ∧
 x.snd.fst = x.snd.fst ∧
 x.fst = x.fst ∧
 (↑(List.length x.fst) : Int) = (↑(List.length x.fst) : Int)) ∧
 a ++
 [((List.getD x.fst (Int.toNat a_1) (Ty.dflt t35)).fst,
 refMap (List.getD x.fst (Int.toNat a_1) (Ty.dflt t35)).snd.fst
 (List.getD x.fst (Int.toNat a_1) (Ty.dflt t35)).snd.snd.fst
 x.snd.fst (0 : Int),
 (List.getD x.fst (Int.toNat a_1) (Ty.dflt t35)).snd.snd)] =
 a ++
 [((List.getD x.fst (Int.toNat a_1) (Ty.dflt t35)).fst,
 refMap (List.getD x.fst (Int.toNat a_1) (Ty.dflt t35)).snd.fst
 (List.getD x.fst (Int.toNat a_1) (Ty.dflt t35)).snd.snd.fst
 x.snd.fst (0 : Int),
 (List.getD x.fst (Int.toNat a_1) (Ty.dflt t35)).snd.snd)] ∧
 True) ∧
 Z
 (a ++
 [((List.getD x.fst (Int.toNat a_1) (Ty.dflt t35)).fst,
 refMap (List.getD x.fst (Int.toNat a_1) (Ty.dflt t35)).snd.fst
 (List.getD x.fst (Int.toNat a_1) (Ty.dflt t35)).snd.snd.fst
 x.snd.fst (0 : Int),
 (List.getD x.fst (Int.toNat a_1) (Ty.dflt t35)).snd.snd)],
 IntKind.wrap IntKind.i64 (a_1 + (1 : Int)), ()) ∧
 μ
 (a ++
 [((List.getD x.fst (Int.toNat a_1) (Ty.dflt t35)).fst,
 refMap (List.getD x.fst (Int.toNat a_1) (Ty.dflt t35)).snd.fst
 (List.getD x.fst (Int.toNat a_1) (Ty.dflt t35)).snd.snd.fst
 x.snd.fst (0 : Int),
 (List.getD x.fst (Int.toNat a_1) (Ty.dflt t35)).snd.snd)],
 IntKind.wrap IntKind.i64 (a_1 + (1 : Int)), ()) <
 μ (a, a_1, ())) ∧
 (List.length x.snd.fst ≤ maxLen ∧
 normal x.snd.fst = true ∧
 (0 : Int) ≤ (List.getD x.fst (Int.toNat a_1) (Ty.dflt t35)).snd.fst ∧
 (List.getD x.fst (Int.toNat a_1) (Ty.dflt t35)).snd.fst ≤
 (1099511627776 : Int)) ∧
 (List.length a +
 List.length
 [((List.getD x.fst (Int.toNat a_1) (Ty.dflt t35)).fst,
 refMap (List.getD x.fst (Int.toNat a_1) (Ty.dflt t35)).snd.fst
 (List.getD x.fst (Int.toNat a_1) (Ty.dflt t35)).snd.snd.fst
 x.snd.fst (0 : Int),
 (List.getD x.fst (Int.toNat a_1) (Ty.dflt t35)).snd.snd)]) *
 (24 : Nat) ≤
 (140737488355328 : Nat) ∧
 List.length a +
 List.length
 [((List.getD x.fst (Int.toNat a_1) (Ty.dflt t35)).fst,
 refMap (List.getD x.fst (Int.toNat a_1) (Ty.dflt t35)).snd.fst
 (List.getD x.fst (Int.toNat a_1) (Ty.dflt t35)).snd.snd.fst
 x.snd.fst (0 : Int),
 (List.getD x.fst (Int.toNat a_1) (Ty.dflt t35)).snd.snd)] ≤
 maxLen ∧
 ((IntKind.wrap IntKind.i64 (a_1 + (1 : Int)) =
 IntKind.wrap IntKind.i64 (a_1 + (1 : Int)) ∧
 True ∧
 x.snd.fst = x.snd.fst ∧
 x.fst = x.fst ∧
 (↑(List.length x.fst) : Int) = (↑(List.length x.fst) : Int)) ∧
 a ++
 [((List.getD x.fst (Int.toNat a_1) (Ty.dflt t35)).fst,
 refMap (List.getD x.fst (Int.toNat a_1) (Ty.dflt t35)).snd.fst
 (List.getD x.fst (Int.toNat a_1) (Ty.dflt t35)).snd.snd.fst
 x.snd.fst (0 : Int),
 (List.getD x.fst (Int.toNat a_1) (Ty.dflt t35)).snd.snd)] =
 a ++
 [((List.getD x.fst (Int.toNat a_1) (Ty.dflt t35)).fst,
 refMap (List.getD x.fst (Int.toNat a_1) (Ty.dflt t35)).snd.fst
 (List.getD x.fst (Int.toNat a_1) (Ty.dflt t35)).snd.snd.fst
 x.snd.fst (0 : Int),
 (List.getD x.fst (Int.toNat a_1) (Ty.dflt t35)).snd.snd)] ∧
 True) ∧
 Z
 (a ++
 [((List.getD x.fst (Int.toNat a_1) (Ty.dflt t35)).fst,
 refMap (List.getD x.fst (Int.toNat a_1) (Ty.dflt t35)).snd.fst
 (List.getD x.fst (Int.toNat a_1) (Ty.dflt t35)).snd.snd.fst
 x.snd.fst (0 : Int),
 (List.getD x.fst (Int.toNat a_1) (Ty.dflt t35)).snd.snd)],
 IntKind.wrap IntKind.i64 (a_1 + (1 : Int)), ()) ∧
 μ
 (a ++
 [((List.getD x.fst (Int.toNat a_1) (Ty.dflt t35)).fst,
 refMap (List.getD x.fst (Int.toNat a_1) (Ty.dflt t35)).snd.fst
 (List.getD x.fst (Int.toNat a_1) (Ty.dflt t35)).snd.snd.fst
 x.snd.fst (0 : Int),
 (List.getD x.fst (Int.toNat a_1) (Ty.dflt t35)).snd.snd)],
 IntKind.wrap IntKind.i64 (a_1 + (1 : Int)), ()) <
 μ (a, a_1, ())) ∧
 ((List.length x.snd.fst ≤ maxLen ∧
 normal x.snd.fst = true ∧
 (0 : Int) ≤ (List.getD x.fst (Int.toNat a_1) (Ty.dflt t35)).snd.fst ∧
 (List.getD x.fst (Int.toNat a_1) (Ty.dflt t35)).snd.fst ≤
 (1099511627776 : Int)) ∧
 ((List.length a +
 List.length
 [((List.getD x.fst (Int.toNat a_1) (Ty.dflt t35)).fst,
 refMap (List.getD x.fst (Int.toNat a_1) (Ty.dflt t35)).snd.fst
 (List.getD x.fst (Int.toNat a_1) (Ty.dflt t35)).snd.snd.fst
 x.snd.fst (0 : Int),
 (List.getD x.fst (Int.toNat a_1) (Ty.dflt t35)).snd.snd)]) *
 (24 : Nat) ≤
 (140737488355328 : Nat) ∧
 List.length a +
 List.length
 [((List.getD x.fst (Int.toNat a_1) (Ty.dflt t35)).fst,
 refMap (List.getD x.fst (Int.toNat a_1) (Ty.dflt t35)).snd.fst
 (List.getD x.fst (Int.toNat a_1) (Ty.dflt t35)).snd.snd.fst
 x.snd.fst (0 : Int),
 (List.getD x.fst (Int.toNat a_1) (Ty.dflt t35)).snd.snd)] ≤
 maxLen ∧
 ((IntKind.wrap IntKind.i64 (a_1 + (1 : Int)) =
 IntKind.wrap IntKind.i64 (a_1 + (1 : Int)) ∧
 True ∧
 x.snd.fst = x.snd.fst ∧
 x.fst = x.fst ∧
 (↑(List.length x.fst) : Int) = (↑(List.length x.fst) : Int)) ∧
 a ++
 [((List.getD x.fst (Int.toNat a_1) (Ty.dflt t35)).fst,
 refMap (List.getD x.fst (Int.toNat a_1) (Ty.dflt t35)).snd.fst
 (List.getD x.fst (Int.toNat a_1) (Ty.dflt t35)).snd.snd.fst
 x.snd.fst (0 : Int),
 (List.getD x.fst (Int.toNat a_1) (Ty.dflt t35)).snd.snd)] =
 a ++
 [((List.getD x.fst (Int.toNat a_1) (Ty.dflt t35)).fst,
 refMap (List.getD x.fst (Int.toNat a_1) (Ty.dflt t35)).snd.fst
 (List.getD x.fst (Int.toNat a_1) (Ty.dflt t35)).snd.snd.fst
 x.snd.fst (0 : Int),
 (List.getD x.fst (Int.toNat a_1) (Ty.dflt t35)).snd.snd)] ∧
 True) ∧
 Z
 (a ++
 [((List.getD x.fst (Int.toNat a_1) (Ty.dflt t35)).fst,
 refMap (List.getD x.fst (Int.toNat a_1) (Ty.dflt t35)).snd.fst
 (List.getD x.fst (Int.toNat a_1) (Ty.dflt t35)).snd.snd.fst
 x.snd.fst (0 : Int),
 (List.getD x.fst (Int.toNat a_1) (Ty.dflt t35)).snd.snd)],
 IntKind.wrap IntKind.i64 (a_1 + (1 : Int)), ()) ∧
 μ
 (a ++
 [((List.getD x.fst (Int.toNat a_1) (Ty.dflt t35)).fst,
 refMap (List.getD x.fst (Int.toNat a_1) (Ty.dflt t35)).snd.fst
 (List.getD x.fst (Int.toNat a_1) (Ty.dflt t35)).snd.snd.fst
 x.snd.fst (0 : Int),
 (List.getD x.fst (Int.toNat a_1) (Ty.dflt t35)).snd.snd)],
 IntKind.wrap IntKind.i64 (a_1 + (1 : Int)), ()) <
 μ (a, a_1, ())) ∧
 (List.length a +
 List.length
 [((List.getD x.fst (Int.toNat a_1) (Ty.dflt t35)).fst,
 refMap (List.getD x.fst (Int.toNat a_1) (Ty.dflt t35)).snd.fst
 (List.getD x.fst (Int.toNat a_1) (Ty.dflt t35)).snd.snd.fst
 x.snd.fst (0 : Int),
 (List.getD x.fst (Int.toNat a_1) (Ty.dflt t35)).snd.snd)]) *
 (24 : Nat) ≤
 (140737488355328 : Nat) ∧
 List.length a +
 List.length
 [((List.getD x.fst (Int.toNat a_1) (Ty.dflt t35)).fst,
 refMap (List.getD x.fst (Int.toNat a_1) (Ty.dflt t35)).snd.fst
 (List.getD x.fst (Int.toNat a_1) (Ty.dflt t35)).snd.snd.fst
 x.snd.fst (0 : Int),
 (List.getD x.fst (Int.toNat a_1) (Ty.dflt t35)).snd.snd)] ≤
 maxLen ∧
 ((IntKind.wrap IntKind.i64 (a_1 + (1 : Int)) =
 IntKind.wrap IntKind.i64 (a_1 + (1 : Int)) ∧
 True ∧
 x.snd.fst = x.snd.fst ∧
 x.fst = x.fst ∧
 (↑(List.length x.fst) : Int) = (↑(List.length x.fst) : Int)) ∧
 a ++
 [((List.getD x.fst (Int.toNat a_1) (Ty.dflt t35)).fst,
 refMap (List.getD x.fst (Int.toNat a_1) (Ty.dflt t35)).snd.fst
 (List.getD x.fst (Int.toNat a_1) (Ty.dflt t35)).snd.snd.fst
 x.snd.fst (0 : Int),
 (List.getD x.fst (Int.toNat a_1) (Ty.dflt t35)).snd.snd)] =
 a ++
 [((List.getD x.fst (Int.toNat a_1) (Ty.dflt t35)).fst,
 refMap (List.getD x.fst (Int.toNat a_1) (Ty.dflt t35)).snd.fst
 (List.getD x.fst (Int.toNat a_1) (Ty.dflt t35)).snd.snd.fst
 x.snd.fst (0 : Int),
 (List.getD x.fst (Int.toNat a_1) (Ty.dflt t35)).snd.snd)] ∧
 True) ∧
 Z
 (a ++
 [((List.getD x.fst (Int.toNat a_1) (Ty.dflt t35)).fst,
 refMap (List.getD x.fst (Int.toNat a_1) (Ty.dflt t35)).snd.fst
 (List.getD x.fst (Int.toNat a_1) (Ty.dflt t35)).snd.snd.fst
 x.snd.fst (0 : Int),
 (List.getD x.fst (Int.toNat a_1) (Ty.dflt t35)).snd.snd)],
 IntKind.wrap IntKind.i64 (a_1 + (1 : Int)), ()) ∧
 μ
 (a ++
 [((List.getD x.fst (Int.toNat a_1) (Ty.dflt t35)).fst,
 refMap (List.getD x.fst (Int.toNat a_1) (Ty.dflt t35)).snd.fst
 (List.getD x.fst (Int.toNat a_1) (Ty.dflt t35)).snd.snd.fst
 x.snd.fst (0 : Int),
 (List.getD x.fst (Int.toNat a_1) (Ty.dflt t35)).snd.snd)],
 IntKind.wrap IntKind.i64 (a_1 + (1 : Int)), ()) <
 μ (a, a_1, ())) ∧
 ((List.length x.snd.fst ≤ maxLen ∧
 normal x.snd.fst = true ∧
 (0 : Int) ≤ (List.getD x.fst (Int.toNat a_1) (Ty.dflt t35)).snd.fst ∧
 (List.getD x.fst (Int.toNat a_1) (Ty.dflt t35)).snd.fst ≤
 (1099511627776 : Int)) ∧
 (List.length a +
 List.length
 [((List.getD x.fst (Int.toNat a_1) (Ty.dflt t35)).fst,
 refMap (List.getD x.fst (Int.toNat a_1) (Ty.dflt t35)).snd.fst
 (List.getD x.fst (Int.toNat a_1) (Ty.dflt t35)).snd.snd.fst
 x.snd.fst (0 : Int),
 (List.getD x.fst (Int.toNat a_1) (Ty.dflt t35)).snd.snd)]) *
 (24 : Nat) ≤
 (140737488355328 : Nat) ∧
 List.length a +
 List.length
 [((List.getD x.fst (Int.toNat a_1) (Ty.dflt t35)).fst,
 refMap (List.getD x.fst (Int.toNat a_1) (Ty.dflt t35)).snd.fst
 (List.getD x.fst (Int.toNat a_1) (Ty.dflt t35)).snd.snd.fst
 x.snd.fst (0 : Int),
 (List.getD x.fst (Int.toNat a_1) (Ty.dflt t35)).snd.snd)] ≤
 maxLen ∧
 ((IntKind.wrap IntKind.i64 (a_1 + (1 : Int)) =
 IntKind.wrap IntKind.i64 (a_1 + (1 : Int)) ∧
 True ∧
 x.snd.fst = x.snd.fst ∧
 x.fst = x.fst ∧
 (↑(List.length x.fst) : Int) = (↑(List.length x.fst) : Int)) ∧
 a ++
 [((List.getD x.fst (Int.toNat a_1) (Ty.dflt t35)).fst,
 refMap (List.getD x.fst (Int.toNat a_1) (Ty.dflt t35)).snd.fst
 (List.getD x.fst (Int.toNat a_1) (Ty.dflt t35)).snd.snd.fst
 x.snd.fst (0 : Int),
 (List.getD x.fst (Int.toNat a_1) (Ty.dflt t35)).snd.snd)] =
 a ++
 [((List.getD x.fst (Int.toNat a_1) (Ty.dflt t35)).fst,
 refMap (List.getD x.fst (Int.toNat a_1) (Ty.dflt t35)).snd.fst
 (List.getD x.fst (Int.toNat a_1) (Ty.dflt t35)).snd.snd.fst
 x.snd.fst (0 : Int),
 (List.getD x.fst (Int.toNat a_1) (Ty.dflt t35)).snd.snd)] ∧
 True) ∧
 Z
 (a ++
 [((List.getD x.fst (Int.toNat a_1) (Ty.dflt t35)).fst,
 refMap (List.getD x.fst (Int.toNat a_1) (Ty.dflt t35)).snd.fst
 (List.getD x.fst (Int.toNat a_1) (Ty.dflt t35)).snd.snd.fst
 x.snd.fst (0 : Int),
 (List.getD x.fst (Int.toNat a_1) (Ty.dflt t35)).snd.snd)],
 IntKind.wrap IntKind.i64 (a_1 + (1 : Int)), ()) ∧
 μ
 (a ++
 [((List.getD x.fst (Int.toNat a_1) (Ty.dflt t35)).fst,
 refMap (List.getD x.fst (Int.toNat a_1) (Ty.dflt t35)).snd.fst
 (List.getD x.fst (Int.toNat a_1) (Ty.dflt t35)).snd.snd.fst
 x.snd.fst (0 : Int),
 (List.getD x.fst (Int.toNat a_1) (Ty.dflt t35)).snd.snd)],
 IntKind.wrap IntKind.i64 (a_1 + (1 : Int)), ()) <
 μ (a, a_1, ())) ∧
 (List.length x.snd.fst ≤ maxLen ∧
 normal x.snd.fst = true ∧
 (0 : Int) ≤ (List.getD x.fst (Int.toNat a_1) (Ty.dflt t35)).snd.fst ∧
 (List.getD x.fst (Int.toNat a_1) (Ty.dflt t35)).snd.fst ≤
 (1099511627776 : Int)) ∧
 (List.length a +
 List.length
 [((List.getD x.fst (Int.toNat a_1) (Ty.dflt t35)).fst,
 refMap (List.getD x.fst (Int.toNat a_1) (Ty.dflt t35)).snd.fst
 (List.getD x.fst (Int.toNat a_1) (Ty.dflt t35)).snd.snd.fst
 x.snd.fst (0 : Int),
 (List.getD x.fst (Int.toNat a_1) (Ty.dflt t35)).snd.snd)]) *
 (24 : Nat) ≤
 (140737488355328 : Nat) ∧
 List.length a +
 List.length
 [((List.getD x.fst (Int.toNat a_1) (Ty.dflt t35)).fst,
 refMap (List.getD x.fst (Int.toNat a_1) (Ty.dflt t35)).snd.fst
 (List.getD x.fst (Int.toNat a_1) (Ty.dflt t35)).snd.snd.fst
 x.snd.fst (0 : Int),
 (List.getD x.fst (Int.toNat a_1) (Ty.dflt t35)).snd.snd)] ≤
 maxLen ∧
 ((IntKind.wrap IntKind.i64 (a_1 + (1 : Int)) =
 IntKind.wrap IntKind.i64 (a_1 + (1 : Int)) ∧
 True ∧
 x.snd.fst = x.snd.fst ∧
 x.fst = x.fst ∧
 (↑(List.length x.fst) : Int) = (↑(List.length x.fst) : Int)) ∧
 a ++
 [((List.getD x.fst (Int.toNat a_1) (Ty.dflt t35)).fst,
 refMap (List.getD x.fst (Int.toNat a_1) (Ty.dflt t35)).snd.fst
 (List.getD x.fst (Int.toNat a_1) (Ty.dflt t35)).snd.snd.fst
 x.snd.fst (0 : Int),
 (List.getD x.fst (Int.toNat a_1) (Ty.dflt t35)).snd.snd)] =
 a ++
 [((List.getD x.fst (Int.toNat a_1) (Ty.dflt t35)).fst,
 refMap (List.getD x.fst (Int.toNat a_1) (Ty.dflt t35)).snd.fst
 (List.getD x.fst (Int.toNat a_1) (Ty.dflt t35)).snd.snd.fst
 x.snd.fst (0 : Int),
 (List.getD x.fst (Int.toNat a_1) (Ty.dflt t35)).snd.snd)] ∧
 True) ∧
 Z
 (a ++
 [((List.getD x.fst (Int.toNat a_1) (Ty.dflt t35)).fst,
 refMap (List.getD x.fst (Int.toNat a_1) (Ty.dflt t35)).snd.fst
 (List.getD x.fst (Int.toNat a_1) (Ty.dflt t35)).snd.snd.fst
 x.snd.fst (0 : Int),
 (List.getD x.fst (Int.toNat a_1) (Ty.dflt t35)).snd.snd)],
 IntKind.wrap IntKind.i64 (a_1 + (1 : Int)), ()) ∧
 μ
 (a ++
 [((List.getD x.fst (Int.toNat a_1) (Ty.dflt t35)).fst,
 refMap (List.getD x.fst (Int.toNat a_1) (Ty.dflt t35)).snd.fst
 (List.getD x.fst (Int.toNat a_1) (Ty.dflt t35)).snd.snd.fst
 x.snd.fst (0 : Int),
 (List.getD x.fst (Int.toNat a_1) (Ty.dflt t35)).snd.snd)],
 IntKind.wrap IntKind.i64 (a_1 + (1 : Int)), ()) <
 μ (a, a_1, ())) ∧
 ((List.length x.snd.fst ≤ maxLen ∧
 normal x.snd.fst = true ∧
 (0 : Int) ≤ (List.getD x.fst (Int.toNat a_1) (Ty.dflt t35)).snd.fst ∧
 (List.getD x.fst (Int.toNat a_1) (Ty.dflt t35)).snd.fst ≤
 (1099511627776 : Int)) ∧
 (List.length a +
 List.length
 [((List.getD x.fst (Int.toNat a_1) (Ty.dflt t35)).fst,
 refMap (List.getD x.fst (Int.toNat a_1) (Ty.dflt t35)).snd.fst
 (List.getD x.fst (Int.toNat a_1) (Ty.dflt t35)).snd.snd.fst x.snd.fst
 (0 : Int),
 (List.getD x.fst (Int.toNat a_1) (Ty.dflt t35)).snd.snd)]) *
 (24 : Nat) ≤
 (140737488355328 : Nat) ∧
 List.length a +
 List.length
 [((List.getD x.fst (Int.toNat a_1) (Ty.dflt t35)).fst,
 refMap (List.getD x.fst (Int.toNat a_1) (Ty.dflt t35)).snd.fst
 (List.getD x.fst (Int.toNat a_1) (Ty.dflt t35)).snd.snd.fst x.snd.fst
 (0 : Int),
 (List.getD x.fst (Int.toNat a_1) (Ty.dflt t35)).snd.snd)] ≤
 maxLen ∧
 ((IntKind.wrap IntKind.i64 (a_1 + (1 : Int)) =
 IntKind.wrap IntKind.i64 (a_1 + (1 : Int)) ∧
 True ∧
 x.snd.fst = x.snd.fst ∧
 x.fst = x.fst ∧
 (↑(List.length x.fst) : Int) = (↑(List.length x.fst) : Int)) ∧
 a ++
 [((List.getD x.fst (Int.toNat a_1) (Ty.dflt t35)).fst,
 refMap (List.getD x.fst (Int.toNat a_1) (Ty.dflt t35)).snd.fst
 (List.getD x.fst (Int.toNat a_1) (Ty.dflt t35)).snd.snd.fst
 x.snd.fst (0 : Int),
 (List.getD x.fst (Int.toNat a_1) (Ty.dflt t35)).snd.snd)] =
 a ++
 [((List.getD x.fst (Int.toNat a_1) (Ty.dflt t35)).fst,
 refMap (List.getD x.fst (Int.toNat a_1) (Ty.dflt t35)).snd.fst
 (List.getD x.fst (Int.toNat a_1) (Ty.dflt t35)).snd.snd.fst
 x.snd.fst (0 : Int),
 (List.getD x.fst (Int.toNat a_1) (Ty.dflt t35)).snd.snd)] ∧
 True) ∧
 Z
 (a ++
 [((List.getD x.fst (Int.toNat a_1) (Ty.dflt t35)).fst,
 refMap (List.getD x.fst (Int.toNat a_1) (Ty.dflt t35)).snd.fst
 (List.getD x.fst (Int.toNat a_1) (Ty.dflt t35)).snd.snd.fst
 x.snd.fst (0 : Int),
 (List.getD x.fst (Int.toNat a_1) (Ty.dflt t35)).snd.snd)],
 IntKind.wrap IntKind.i64 (a_1 + (1 : Int)), ()) ∧
 μ
 (a ++
 [((List.getD x.fst (Int.toNat a_1) (Ty.dflt t35)).fst,
 refMap (List.getD x.fst (Int.toNat a_1) (Ty.dflt t35)).snd.fst
 (List.getD x.fst (Int.toNat a_1) (Ty.dflt t35)).snd.snd.fst
 x.snd.fst (0 : Int),
 (List.getD x.fst (Int.toNat a_1) (Ty.dflt t35)).snd.snd)],
 IntKind.wrap IntKind.i64 (a_1 + (1 : Int)), ()) <
 μ (a, a_1, ())) ∧
 ((List.length x.snd.fst ≤ maxLen ∧
 normal x.snd.fst = true ∧
 (0 : Int) ≤ (List.getD x.fst (Int.toNat a_1) (Ty.dflt t35)).snd.fst ∧
 (List.getD x.fst (Int.toNat a_1) (Ty.dflt t35)).snd.fst ≤
 (1099511627776 : Int)) ∧
 (List.length a +
 List.length
 [((List.getD x.fst (Int.toNat a_1) (Ty.dflt t35)).fst,
 refMap (List.getD x.fst (Int.toNat a_1) (Ty.dflt t35)).snd.fst
 (List.getD x.fst (Int.toNat a_1) (Ty.dflt t35)).snd.snd.fst
 x.snd.fst (0 : Int),
 (List.getD x.fst (Int.toNat a_1) (Ty.dflt t35)).snd.snd)]) *
 (24 : Nat) ≤
 (140737488355328 : Nat) ∧
 List.length a +
 List.length
 [((List.getD x.fst (Int.toNat a_1) (Ty.dflt t35)).fst,
 refMap (List.getD x.fst (Int.toNat a_1) (Ty.dflt t35)).snd.fst
 (List.getD x.fst (Int.toNat a_1) (Ty.dflt t35)).snd.snd.fst
 x.snd.fst (0 : Int),
 (List.getD x.fst (Int.toNat a_1) (Ty.dflt t35)).snd.snd)] ≤
 maxLen ∧
 ((IntKind.wrap IntKind.i64 (a_1 + (1 : Int)) =
 IntKind.wrap IntKind.i64 (a_1 + (1 : Int)) ∧
 True ∧
 x.snd.fst = x.snd.fst ∧
 x.fst = x.fst ∧
 (↑(List.length x.fst) : Int) = (↑(List.length x.fst) : Int)) ∧
 a ++
 [((List.getD x.fst (Int.toNat a_1) (Ty.dflt t35)).fst,
 refMap (List.getD x.fst (Int.toNat a_1) (Ty.dflt t35)).snd.fst
 (List.getD x.fst (Int.toNat a_1) (Ty.dflt t35)).snd.snd.fst
 x.snd.fst (0 : Int),
 (List.getD x.fst (Int.toNat a_1) (Ty.dflt t35)).snd.snd)] =
 a ++
 [((List.getD x.fst (Int.toNat a_1) (Ty.dflt t35)).fst,
 refMap (List.getD x.fst (Int.toNat a_1) (Ty.dflt t35)).snd.fst
 (List.getD x.fst (Int.toNat a_1) (Ty.dflt t35)).snd.snd.fst
 x.snd.fst (0 : Int),
 (List.getD x.fst (Int.toNat a_1) (Ty.dflt t35)).snd.snd)] ∧
 True) ∧
 Z
 (a ++
 [((List.getD x.fst (Int.toNat a_1) (Ty.dflt t35)).fst,
 refMap (List.getD x.fst (Int.toNat a_1) (Ty.dflt t35)).snd.fst
 (List.getD x.fst (Int.toNat a_1) (Ty.dflt t35)).snd.snd.fst
 x.snd.fst (0 : Int),
 (List.getD x.fst (Int.toNat a_1) (Ty.dflt t35)).snd.snd)],
 IntKind.wrap IntKind.i64 (a_1 + (1 : Int)), ()) ∧
 μ
 (a ++
 [((List.getD x.fst (Int.toNat a_1) (Ty.dflt t35)).fst,
 refMap (List.getD x.fst (Int.toNat a_1) (Ty.dflt t35)).snd.fst
 (List.getD x.fst (Int.toNat a_1) (Ty.dflt t35)).snd.snd.fst
 x.snd.fst (0 : Int),
 (List.getD x.fst (Int.toNat a_1) (Ty.dflt t35)).snd.snd)],
 IntKind.wrap IntKind.i64 (a_1 + (1 : Int)), ()) <
 μ (a, a_1, ())) ∧
 (List.length x.snd.fst ≤ maxLen ∧
 normal x.snd.fst = true ∧
 (0 : Int) ≤ (List.getD x.fst (Int.toNat a_1) (Ty.dflt t35)).snd.fst ∧
 (List.getD x.fst (Int.toNat a_1) (Ty.dflt t35)).snd.fst ≤
 (1099511627776 : Int)) ∧
 (List.length a +
 List.length
 [((List.getD x.fst (Int.toNat a_1) (Ty.dflt t35)).fst,
 refMap (List.getD x.fst (Int.toNat a_1) (Ty.dflt t35)).snd.fst
 (List.getD x.fst (Int.toNat a_1) (Ty.dflt t35)).snd.snd.fst
 x.snd.fst (0 : Int),
 (List.getD x.fst (Int.toNat a_1) (Ty.dflt t35)).snd.snd)]) *
 (24 : Nat) ≤
 (140737488355328 : Nat) ∧
 List.length a +
 List.length
 [((List.getD x.fst (Int.toNat a_1) (Ty.dflt t35)).fst,
 refMap (List.getD x.fst (Int.toNat a_1) (Ty.dflt t35)).snd.fst
 (List.getD x.fst (Int.toNat a_1) (Ty.dflt t35)).snd.snd.fst
 x.snd.fst (0 : Int),
 (List.getD x.fst (Int.toNat a_1) (Ty.dflt t35)).snd.snd)] ≤
 maxLen ∧
 ((IntKind.wrap IntKind.i64 (a_1 + (1 : Int)) =
 IntKind.wrap IntKind.i64 (a_1 + (1 : Int)) ∧
 True ∧
 x.snd.fst = x.snd.fst ∧
 x.fst = x.fst ∧
 (↑(List.length x.fst) : Int) = (↑(List.length x.fst) : Int)) ∧
 a ++
 [((List.getD x.fst (Int.toNat a_1) (Ty.dflt t35)).fst,
 refMap (List.getD x.fst (Int.toNat a_1) (Ty.dflt t35)).snd.fst
 (List.getD x.fst (Int.toNat a_1) (Ty.dflt t35)).snd.snd.fst
 x.snd.fst (0 : Int),
 (List.getD x.fst (Int.toNat a_1) (Ty.dflt t35)).snd.snd)] =
 a ++
 [((List.getD x.fst (Int.toNat a_1) (Ty.dflt t35)).fst,
 refMap (List.getD x.fst (Int.toNat a_1) (Ty.dflt t35)).snd.fst
 (List.getD x.fst (Int.toNat a_1) (Ty.dflt t35)).snd.snd.fst
 x.snd.fst (0 : Int),
 (List.getD x.fst (Int.toNat a_1) (Ty.dflt t35)).snd.snd)] ∧
 True) ∧
 Z
 (a ++
 [((List.getD x.fst (Int.toNat a_1) (Ty.dflt t35)).fst,
 refMap (List.getD x.fst (Int.toNat a_1) (Ty.dflt t35)).snd.fst
 (List.getD x.fst (Int.toNat a_1) (Ty.dflt t35)).snd.snd.fst
 x.snd.fst (0 : Int),
 (List.getD x.fst (Int.toNat a_1) (Ty.dflt t35)).snd.snd)],
 IntKind.wrap IntKind.i64 (a_1 + (1 : Int)), ()) ∧
 μ
 (a ++
 [((List.getD x.fst (Int.toNat a_1) (Ty.dflt t35)).fst,
 refMap (List.getD x.fst (Int.toNat a_1) (Ty.dflt t35)).snd.fst
 (List.getD x.fst (Int.toNat a_1) (Ty.dflt t35)).snd.snd.fst
 x.snd.fst (0 : Int),
 (List.getD x.fst (Int.toNat a_1) (Ty.dflt t35)).snd.snd)],
 IntKind.wrap IntKind.i64 (a_1 + (1 : Int)), ()) <
 μ (a, a_1, ())) ∧
 (((((List.length x.snd.fst ≤ maxLen ∧
 normal x.snd.fst = true ∧
 (0 : Int) ≤ (List.getD x.fst (Int.toNat a_1) (Ty.dflt t35)).snd.fst ∧
 (List.getD x.fst (Int.toNat a_1) (Ty.dflt t35)).snd.fst ≤
 (1099511627776 : Int)) ∧
 (List.length a +
 List.length
 [((List.getD x.fst (Int.toNat a_1) (Ty.dflt t35)).fst,
 refMap (List.getD x.fst (Int.toNat a_1) (Ty.dflt t35)).snd.fst
 (List.getD x.fst (Int.toNat a_1) (Ty.dflt t35)).snd.snd.fst
 x.snd.fst (0 : Int),
 (List.getD x.fst (Int.toNat a_1) (Ty.dflt t35)).snd.snd)]) *
 (24 : Nat) ≤
 (140737488355328 : Nat) ∧
 List.length a +
 List.length
 [((List.getD x.fst (Int.toNat a_1) (Ty.dflt t35)).fst,
 refMap (List.getD x.fst (Int.toNat a_1) (Ty.dflt t35)).snd.fst
 (List.getD x.fst (Int.toNat a_1) (Ty.dflt t35)).snd.snd.fst
 x.snd.fst (0 : Int),
 (List.getD x.fst (Int.toNat a_1) (Ty.dflt t35)).snd.snd)] ≤
 maxLen ∧
 ((IntKind.wrap IntKind.i64 (a_1 + (1 : Int)) =
 IntKind.wrap IntKind.i64 (a_1 + (1 : Int)) ∧
 True ∧
 x.snd.fst = x.snd.fst ∧
 x.fst = x.fst ∧
 (↑(List.length x.fst) : Int) = (↑(List.length x.fst) : Int)) ∧
 a ++
 [((List.getD x.fst (Int.toNat a_1) (Ty.dflt t35)).fst,
 refMap (List.getD x.fst (Int.toNat a_1) (Ty.dflt t35)).snd.fst
 (List.getD x.fst (Int.toNat a_1) (Ty.dflt t35)).snd.snd.fst
 x.snd.fst (0 : Int),
 (List.getD x.fst (Int.toNat a_1) (Ty.dflt t35)).snd.snd)] =
 a ++
 [((List.getD x.fst (Int.toNat a_1) (Ty.dflt t35)).fst,
 refMap (List.getD x.fst (Int.toNat a_1) (Ty.dflt t35)).snd.fst
 (List.getD x.fst (Int.toNat a_1) (Ty.dflt t35)).snd.snd.fst
 x.snd.fst (0 : Int),
 (List.getD x.fst (Int.toNat a_1) (Ty.dflt t35)).snd.snd)] ∧
 True) ∧
 Z
 (a ++
 [((List.getD x.fst (Int.toNat a_1) (Ty.dflt t35)).fst,
 refMap (List.getD x.fst (Int.toNat a_1) (Ty.dflt t35)).snd.fst
 (List.getD x.fst (Int.toNat a_1) (Ty.dflt t35)).snd.snd.fst
 x.snd.fst (0 : Int),
 (List.getD x.fst (Int.toNat a_1) (Ty.dflt t35)).snd.snd)],
 IntKind.wrap IntKind.i64 (a_1 + (1 : Int)), ()) ∧
 μ
 (a ++
 [((List.getD x.fst (Int.toNat a_1) (Ty.dflt t35)).fst,
 refMap (List.getD x.fst (Int.toNat a_1) (Ty.dflt t35)).snd.fst
 (List.getD x.fst (Int.toNat a_1) (Ty.dflt t35)).snd.snd.fst
 x.snd.fst (0 : Int),
 (List.getD x.fst (Int.toNat a_1) (Ty.dflt t35)).snd.snd)],
 IntKind.wrap IntKind.i64 (a_1 + (1 : Int)), ()) <
 μ (a, a_1, ())) ∧
 (List.length x.snd.fst ≤ maxLen ∧
 normal x.snd.fst = true ∧
 (0 : Int) ≤ (List.getD x.fst (Int.toNat a_1) (Ty.dflt t35)).snd.fst ∧
 (List.getD x.fst (Int.toNat a_1) (Ty.dflt t35)).snd.fst ≤
 (1099511627776 : Int)) ∧
 (List.length a +
 List.length
 [((List.getD x.fst (Int.toNat a_1) (Ty.dflt t35)).fst,
 refMap (List.getD x.fst (Int.toNat a_1) (Ty.dflt t35)).snd.fst
 (List.getD x.fst (Int.toNat a_1) (Ty.dflt t35)).snd.snd.fst
 x.snd.fst (0 : Int),
 (List.getD x.fst (Int.toNat a_1) (Ty.dflt t35)).snd.snd)]) *
 (24 : Nat) ≤
 (140737488355328 : Nat) ∧
 List.length a +
 List.length
 [((List.getD x.fst (Int.toNat a_1) (Ty.dflt t35)).fst,
 refMap (List.getD x.fst (Int.toNat a_1) (Ty.dflt t35)).snd.fst
 (List.getD x.fst (Int.toNat a_1) (Ty.dflt t35)).snd.snd.fst
 x.snd.fst (0 : Int),
 (List.getD x.fst (Int.toNat a_1) (Ty.dflt t35)).snd.snd)] ≤
 maxLen ∧
 ((IntKind.wrap IntKind.i64 (a_1 + (1 : Int)) =
 IntKind.wrap IntKind.i64 (a_1 + (1 : Int)) ∧
 True ∧
 x.snd.fst = x.snd.fst ∧
 x.fst = x.fst ∧
 (↑(List.length x.fst) : Int) = (↑(List.length x.fst) : Int)) ∧
 a ++
 [((List.getD x.fst (Int.toNat a_1) (Ty.dflt t35)).fst,
 refMap (List.getD x.fst (Int.toNat a_1) (Ty.dflt t35)).snd.fst
 (List.getD x.fst (Int.toNat a_1) (Ty.dflt t35)).snd.snd.fst
 x.snd.fst (0 : Int),
 (List.getD x.fst (Int.toNat a_1) (Ty.dflt t35)).snd.snd)] =
 a ++
 [((List.getD x.fst (Int.toNat a_1) (Ty.dflt t35)).fst,
 refMap (List.getD x.fst (Int.toNat a_1) (Ty.dflt t35)).snd.fst
 (List.getD x.fst (Int.toNat a_1) (Ty.dflt t35)).snd.snd.fst
 x.snd.fst (0 : Int),
 (List.getD x.fst (Int.toNat a_1) (Ty.dflt t35)).snd.snd)] ∧
 True) ∧
 Z
 (a ++
 [((List.getD x.fst (Int.toNat a_1) (Ty.dflt t35)).fst,
 refMap (List.getD x.fst (Int.toNat a_1) (Ty.dflt t35)).snd.fst
 (List.getD x.fst (Int.toNat a_1) (Ty.dflt t35)).snd.snd.fst
 x.snd.fst (0 : Int),
 (List.getD x.fst (Int.toNat a_1) (Ty.dflt t35)).snd.snd)],
 IntKind.wrap IntKind.i64 (a_1 + (1 : Int)), ()) ∧
 μ
 (a ++
 [((List.getD x.fst (Int.toNat a_1) (Ty.dflt t35)).fst,
 refMap (List.getD x.fst (Int.toNat a_1) (Ty.dflt t35)).snd.fst
 (List.getD x.fst (Int.toNat a_1) (Ty.dflt t35)).snd.snd.fst
 x.snd.fst (0 : Int),
 (List.getD x.fst (Int.toNat a_1) (Ty.dflt t35)).snd.snd)],
 IntKind.wrap IntKind.i64 (a_1 + (1 : Int)), ()) <
 μ (a, a_1, ())) ∧
 (List.length x.snd.fst ≤ maxLen ∧
 normal x.snd.fst = true ∧
 (0 : Int) ≤ (List.getD x.fst (Int.toNat a_1) (Ty.dflt t35)).snd.fst ∧
 (List.getD x.fst (Int.toNat a_1) (Ty.dflt t35)).snd.fst ≤
 (1099511627776 : Int)) ∧
 (List.length a +
 List.length
 [((List.getD x.fst (Int.toNat a_1) (Ty.dflt t35)).fst,
 refMap (List.getD x.fst (Int.toNat a_1) (Ty.dflt t35)).snd.fst
 (List.getD x.fst (Int.toNat a_1) (Ty.dflt t35)).snd.snd.fst x.snd.fst
 (0 : Int),
 (List.getD x.fst (Int.toNat a_1) (Ty.dflt t35)).snd.snd)]) *
 (24 : Nat) ≤
 (140737488355328 : Nat) ∧
 List.length a +
 List.length
 [((List.getD x.fst (Int.toNat a_1) (Ty.dflt t35)).fst,
 refMap (List.getD x.fst (Int.toNat a_1) (Ty.dflt t35)).snd.fst
 (List.getD x.fst (Int.toNat a_1) (Ty.dflt t35)).snd.snd.fst x.snd.fst
 (0 : Int),
 (List.getD x.fst (Int.toNat a_1) (Ty.dflt t35)).snd.snd)] ≤
 maxLen ∧
 ((IntKind.wrap IntKind.i64 (a_1 + (1 : Int)) =
 IntKind.wrap IntKind.i64 (a_1 + (1 : Int)) ∧
 True ∧
 x.snd.fst = x.snd.fst ∧
 x.fst = x.fst ∧
 (↑(List.length x.fst) : Int) = (↑(List.length x.fst) : Int)) ∧
 a ++
 [((List.getD x.fst (Int.toNat a_1) (Ty.dflt t35)).fst,
 refMap (List.getD x.fst (Int.toNat a_1) (Ty.dflt t35)).snd.fst
 (List.getD x.fst (Int.toNat a_1) (Ty.dflt t35)).snd.snd.fst
 x.snd.fst (0 : Int),
 (List.getD x.fst (Int.toNat a_1) (Ty.dflt t35)).snd.snd)] =
 a ++
 [((List.getD x.fst (Int.toNat a_1) (Ty.dflt t35)).fst,
 refMap (List.getD x.fst (Int.toNat a_1) (Ty.dflt t35)).snd.fst
 (List.getD x.fst (Int.toNat a_1) (Ty.dflt t35)).snd.snd.fst
 x.snd.fst (0 : Int),
 (List.getD x.fst (Int.toNat a_1) (Ty.dflt t35)).snd.snd)] ∧
 True) ∧
 Z
 (a ++
 [((List.getD x.fst (Int.toNat a_1) (Ty.dflt t35)).fst,
 refMap (List.getD x.fst (Int.toNat a_1) (Ty.dflt t35)).snd.fst
 (List.getD x.fst (Int.toNat a_1) (Ty.dflt t35)).snd.snd.fst
 x.snd.fst (0 : Int),
 (List.getD x.fst (Int.toNat a_1) (Ty.dflt t35)).snd.snd)],
 IntKind.wrap IntKind.i64 (a_1 + (1 : Int)), ()) ∧
 μ
 (a ++
 [((List.getD x.fst (Int.toNat a_1) (Ty.dflt t35)).fst,
 refMap (List.getD x.fst (Int.toNat a_1) (Ty.dflt t35)).snd.fst
 (List.getD x.fst (Int.toNat a_1) (Ty.dflt t35)).snd.snd.fst
 x.snd.fst (0 : Int),
 (List.getD x.fst (Int.toNat a_1) (Ty.dflt t35)).snd.snd)],
 IntKind.wrap IntKind.i64 (a_1 + (1 : Int)), ()) <
 μ (a, a_1, ())) ∧
 ((((List.length x.snd.fst ≤ maxLen ∧
 normal x.snd.fst = true ∧
 (0 : Int) ≤ (List.getD x.fst (Int.toNat a_1) (Ty.dflt t35)).snd.fst ∧
 (List.getD x.fst (Int.toNat a_1) (Ty.dflt t35)).snd.fst ≤
 (1099511627776 : Int)) ∧
 (List.length a +
 List.length
 [((List.getD x.fst (Int.toNat a_1) (Ty.dflt t35)).fst,
 refMap (List.getD x.fst (Int.toNat a_1) (Ty.dflt t35)).snd.fst
 (List.getD x.fst (Int.toNat a_1) (Ty.dflt t35)).snd.snd.fst
 x.snd.fst (0 : Int),
 (List.getD x.fst (Int.toNat a_1) (Ty.dflt t35)).snd.snd)]) *
 (24 : Nat) ≤
 (140737488355328 : Nat) ∧
 List.length a +
 List.length
 [((List.getD x.fst (Int.toNat a_1) (Ty.dflt t35)).fst,
 refMap (List.getD x.fst (Int.toNat a_1) (Ty.dflt t35)).snd.fst
 (List.getD x.fst (Int.toNat a_1) (Ty.dflt t35)).snd.snd.fst
 x.snd.fst (0 : Int),
 (List.getD x.fst (Int.toNat a_1) (Ty.dflt t35)).snd.snd)] ≤
 maxLen ∧
 ((IntKind.wrap IntKind.i64 (a_1 + (1 : Int)) =
 IntKind.wrap IntKind.i64 (a_1 + (1 : Int)) ∧
 True ∧
 x.snd.fst = x.snd.fst ∧
 x.fst = x.fst ∧
 (↑(List.length x.fst) : Int) = (↑(List.length x.fst) : Int)) ∧
 a ++
 [((List.getD x.fst (Int.toNat a_1) (Ty.dflt t35)).fst,
 refMap (List.getD x.fst (Int.toNat a_1) (Ty.dflt t35)).snd.fst
 (List.getD x.fst (Int.toNat a_1) (Ty.dflt t35)).snd.snd.fst
 x.snd.fst (0 : Int),
 (List.getD x.fst (Int.toNat a_1) (Ty.dflt t35)).snd.snd)] =
 a ++
 [((List.getD x.fst (Int.toNat a_1) (Ty.dflt t35)).fst,
 refMap (List.getD x.fst (Int.toNat a_1) (Ty.dflt t35)).snd.fst
 (List.getD x.fst (Int.toNat a_1) (Ty.dflt t35)).snd.snd.fst
 x.snd.fst (0 : Int),
 (List.getD x.fst (Int.toNat a_1) (Ty.dflt t35)).snd.snd)] ∧
 True) ∧
 Z
 (a ++
 [((List.getD x.fst (Int.toNat a_1) (Ty.dflt t35)).fst,
 refMap (List.getD x.fst (Int.toNat a_1) (Ty.dflt t35)).snd.fst
 (List.getD x.fst (Int.toNat a_1) (Ty.dflt t35)).snd.snd.fst
 x.snd.fst (0 : Int),
 (List.getD x.fst (Int.toNat a_1) (Ty.dflt t35)).snd.snd)],
 IntKind.wrap IntKind.i64 (a_1 + (1 : Int)), ()) ∧
 μ
 (a ++
 [((List.getD x.fst (Int.toNat a_1) (Ty.dflt t35)).fst,
 refMap (List.getD x.fst (Int.toNat a_1) (Ty.dflt t35)).snd.fst
 (List.getD x.fst (Int.toNat a_1) (Ty.dflt t35)).snd.snd.fst
 x.snd.fst (0 : Int),
 (List.getD x.fst (Int.toNat a_1) (Ty.dflt t35)).snd.snd)],
 IntKind.wrap IntKind.i64 (a_1 + (1 : Int)), ()) <
 μ (a, a_1, ())) ∧
 (List.length x.snd.fst ≤ maxLen ∧
 normal x.snd.fst = true ∧
 (0 : Int) ≤ (List.getD x.fst (Int.toNat a_1) (Ty.dflt t35)).snd.fst ∧
 (List.getD x.fst (Int.toNat a_1) (Ty.dflt t35)).snd.fst ≤
 (1099511627776 : Int)) ∧
 (List.length a +
 List.length
 [((List.getD x.fst (Int.toNat a_1) (Ty.dflt t35)).fst,
 refMap (List.getD x.fst (Int.toNat a_1) (Ty.dflt t35)).snd.fst
 (List.getD x.fst (Int.toNat a_1) (Ty.dflt t35)).snd.snd.fst
 x.snd.fst (0 : Int),
 (List.getD x.fst (Int.toNat a_1) (Ty.dflt t35)).snd.snd)]) *
 (24 : Nat) ≤
 (140737488355328 : Nat) ∧
 List.length a +
 List.length
 [((List.getD x.fst (Int.toNat a_1) (Ty.dflt t35)).fst,
 refMap (List.getD x.fst (Int.toNat a_1) (Ty.dflt t35)).snd.fst
 (List.getD x.fst (Int.toNat a_1) (Ty.dflt t35)).snd.snd.fst
 x.snd.fst (0 : Int),
 (List.getD x.fst (Int.toNat a_1) (Ty.dflt t35)).snd.snd)] ≤
 maxLen ∧
 ((IntKind.wrap IntKind.i64 (a_1 + (1 : Int)) =
 IntKind.wrap IntKind.i64 (a_1 + (1 : Int)) ∧
 True ∧
 x.snd.fst = x.snd.fst ∧
 x.fst = x.fst ∧
 (↑(List.length x.fst) : Int) = (↑(List.length x.fst) : Int)) ∧
 a ++
 [((List.getD x.fst (Int.toNat a_1) (Ty.dflt t35)).fst,
 refMap (List.getD x.fst (Int.toNat a_1) (Ty.dflt t35)).snd.fst
 (List.getD x.fst (Int.toNat a_1) (Ty.dflt t35)).snd.snd.fst
 x.snd.fst (0 : Int),
 (List.getD x.fst (Int.toNat a_1) (Ty.dflt t35)).snd.snd)] =
 a ++
 [((List.getD x.fst (Int.toNat a_1) (Ty.dflt t35)).fst,
 refMap (List.getD x.fst (Int.toNat a_1) (Ty.dflt t35)).snd.fst
 (List.getD x.fst (Int.toNat a_1) (Ty.dflt t35)).snd.snd.fst
 x.snd.fst (0 : Int),
 (List.getD x.fst (Int.toNat a_1) (Ty.dflt t35)).snd.snd)] ∧
 True) ∧
 Z
 (a ++
 [((List.getD x.fst (Int.toNat a_1) (Ty.dflt t35)).fst,
 refMap (List.getD x.fst (Int.toNat a_1) (Ty.dflt t35)).snd.fst
 (List.getD x.fst (Int.toNat a_1) (Ty.dflt t35)).snd.snd.fst
 x.snd.fst (0 : Int),
 (List.getD x.fst (Int.toNat a_1) (Ty.dflt t35)).snd.snd)],
 IntKind.wrap IntKind.i64 (a_1 + (1 : Int)), ()) ∧
 μ
 (a ++
 [((List.getD x.fst (Int.toNat a_1) (Ty.dflt t35)).fst,
 refMap (List.getD x.fst (Int.toNat a_1) (Ty.dflt t35)).snd.fst
 (List.getD x.fst (Int.toNat a_1) (Ty.dflt t35)).snd.snd.fst
 x.snd.fst (0 : Int),
 (List.getD x.fst (Int.toNat a_1) (Ty.dflt t35)).snd.snd)],
 IntKind.wrap IntKind.i64 (a_1 + (1 : Int)), ()) <
 μ (a, a_1, ())) ∧
 ((List.length x.snd.fst ≤ maxLen ∧
 normal x.snd.fst = true ∧
 (0 : Int) ≤ (List.getD x.fst (Int.toNat a_1) (Ty.dflt t35)).snd.fst ∧
 (List.getD x.fst (Int.toNat a_1) (Ty.dflt t35)).snd.fst ≤
 (1099511627776 : Int)) ∧
 ((List.length a +
 List.length
 [((List.getD x.fst (Int.toNat a_1) (Ty.dflt t35)).fst,
 refMap (List.getD x.fst (Int.toNat a_1) (Ty.dflt t35)).snd.fst
 (List.getD x.fst (Int.toNat a_1) (Ty.dflt t35)).snd.snd.fst
 x.snd.fst (0 : Int),
 (List.getD x.fst (Int.toNat a_1) (Ty.dflt t35)).snd.snd)]) *
 (24 : Nat) ≤
 (140737488355328 : Nat) ∧
 List.length a +
 List.length
 [((List.getD x.fst (Int.toNat a_1) (Ty.dflt t35)).fst,
 refMap (List.getD x.fst (Int.toNat a_1) (Ty.dflt t35)).snd.fst
 (List.getD x.fst (Int.toNat a_1) (Ty.dflt t35)).snd.snd.fst
 x.snd.fst (0 : Int),
 (List.getD x.fst (Int.toNat a_1) (Ty.dflt t35)).snd.snd)] ≤
 maxLen ∧
 ((IntKind.wrap IntKind.i64 (a_1 + (1 : Int)) =
 IntKind.wrap IntKind.i64 (a_1 + (1 : Int)) ∧
 True ∧
 x.snd.fst = x.snd.fst ∧
 x.fst = x.fst ∧
 (↑(List.length x.fst) : Int) = (↑(List.length x.fst) : Int)) ∧
 a ++
 [((List.getD x.fst (Int.toNat a_1) (Ty.dflt t35)).fst,
 refMap (List.getD x.fst (Int.toNat a_1) (Ty.dflt t35)).snd.fst
 (List.getD x.fst (Int.toNat a_1) (Ty.dflt t35)).snd.snd.fst
 x.snd.fst (0 : Int),
 (List.getD x.fst (Int.toNat a_1) (Ty.dflt t35)).snd.snd)] =
 a ++
 [((List.getD x.fst (Int.toNat a_1) (Ty.dflt t35)).fst,
 refMap (List.getD x.fst (Int.toNat a_1) (Ty.dflt t35)).snd.fst
 (List.getD x.fst (Int.toNat a_1) (Ty.dflt t35)).snd.snd.fst
 x.snd.fst (0 : Int),
 (List.getD x.fst (Int.toNat a_1) (Ty.dflt t35)).snd.snd)] ∧
 True) ∧
 Z
 (a ++
 [((List.getD x.fst (Int.toNat a_1) (Ty.dflt t35)).fst,
 refMap (List.getD x.fst (Int.toNat a_1) (Ty.dflt t35)).snd.fst
 (List.getD x.fst (Int.toNat a_1) (Ty.dflt t35)).snd.snd.fst
 x.snd.fst (0 : Int),
 (List.getD x.fst (Int.toNat a_1) (Ty.dflt t35)).snd.snd)],
 IntKind.wrap IntKind.i64 (a_1 + (1 : Int)), ()) ∧
 μ
 (a ++
 [((List.getD x.fst (Int.toNat a_1) (Ty.dflt t35)).fst,
 refMap
 (List.getD x.fst (Int.toNat a_1) (Ty.dflt t35)).snd.fst
 (List.getD x.fst (Int.toNat a_1)
 (Ty.dflt t35)).snd.snd.fst
 x.snd.fst (0 : Int),
 (List.getD x.fst (Int.toNat a_1) (Ty.dflt t35)).snd.snd)],
 IntKind.wrap IntKind.i64 (a_1 + (1 : Int)), ()) <
 μ (a, a_1, ())) ∧
 (List.length a +
 List.length
 [((List.getD x.fst (Int.toNat a_1) (Ty.dflt t35)).fst,
 refMap (List.getD x.fst (Int.toNat a_1) (Ty.dflt t35)).snd.fst
 (List.getD x.fst (Int.toNat a_1) (Ty.dflt t35)).snd.snd.fst
 x.snd.fst (0 : Int),
 (List.getD x.fst (Int.toNat a_1) (Ty.dflt t35)).snd.snd)]) *
 (24 : Nat) ≤
 (140737488355328 : Nat) ∧
 List.length a +
 List.length
 [((List.getD x.fst (Int.toNat a_1) (Ty.dflt t35)).fst,
 refMap (List.getD x.fst (Int.toNat a_1) (Ty.dflt t35)).snd.fst
 (List.getD x.fst (Int.toNat a_1) (Ty.dflt t35)).snd.snd.fst
 x.snd.fst (0 : Int),
 (List.getD x.fst (Int.toNat a_1) (Ty.dflt t35)).snd.snd)] ≤
 maxLen ∧
 ((IntKind.wrap IntKind.i64 (a_1 + (1 : Int)) =
 IntKind.wrap IntKind.i64 (a_1 + (1 : Int)) ∧
 True ∧
 x.snd.fst = x.snd.fst ∧
 x.fst = x.fst ∧
 (↑(List.length x.fst) : Int) = (↑(List.length x.fst) : Int)) ∧
 a ++
 [((List.getD x.fst (Int.toNat a_1) (Ty.dflt t35)).fst,
 refMap (List.getD x.fst (Int.toNat a_1) (Ty.dflt t35)).snd.fst
 (List.getD x.fst (Int.toNat a_1) (Ty.dflt t35)).snd.snd.fst
 x.snd.fst (0 : Int),
 (List.getD x.fst (Int.toNat a_1) (Ty.dflt t35)).snd.snd)] =
 a ++
 [((List.getD x.fst (Int.toNat a_1) (Ty.dflt t35)).fst,
 refMap (List.getD x.fst (Int.toNat a_1) (Ty.dflt t35)).snd.fst
 (List.getD x.fst (Int.toNat a_1) (Ty.dflt t35)).snd.snd.fst
 x.snd.fst (0 : Int),
 (List.getD x.fst (Int.toNat a_1) (Ty.dflt t35)).snd.snd)] ∧
 True) ∧
 Z
 (a ++
 [((List.getD x.fst (Int.toNat a_1) (Ty.dflt t35)).fst,
 refMap (List.getD x.fst (Int.toNat a_1) (Ty.dflt t35)).snd.fst
 (List.getD x.fst (Int.toNat a_1) (Ty.dflt t35)).snd.snd.fst
 x.snd.fst (0 : Int),
 (List.getD x.fst (Int.toNat a_1) (Ty.dflt t35)).snd.snd)],
 IntKind.wrap IntKind.i64 (a_1 + (1 : Int)), ()) ∧
 μ
 (a ++
 [((List.getD x.fst (Int.toNat a_1) (Ty.dflt t35)).fst,
 refMap
 (List.getD x.fst (Int.toNat a_1) (Ty.dflt t35)).snd.fst
 (List.getD x.fst (Int.toNat a_1)
 (Ty.dflt t35)).snd.snd.fst
 x.snd.fst (0 : Int),
 (List.getD x.fst (Int.toNat a_1) (Ty.dflt t35)).snd.snd)],
 IntKind.wrap IntKind.i64 (a_1 + (1 : Int)), ()) <
 μ (a, a_1, ())) ∧
 ((List.length x.snd.fst ≤ maxLen ∧
 normal x.snd.fst = true ∧
 (0 : Int) ≤ (List.getD x.fst (Int.toNat a_1) (Ty.dflt t35)).snd.fst ∧
 (List.getD x.fst (Int.toNat a_1) (Ty.dflt t35)).snd.fst ≤
 (1099511627776 : Int)) ∧
 (List.length a +
 List.length
 [((List.getD x.fst (Int.toNat a_1) (Ty.dflt t35)).fst,
 refMap (List.getD x.fst (Int.toNat a_1) (Ty.dflt t35)).snd.fst
 (List.getD x.fst (Int.toNat a_1) (Ty.dflt t35)).snd.snd.fst
 x.snd.fst (0 : Int),
 (List.getD x.fst (Int.toNat a_1) (Ty.dflt t35)).snd.snd)]) *
 (24 : Nat) ≤
 (140737488355328 : Nat) ∧
 List.length a +
 List.length
 [((List.getD x.fst (Int.toNat a_1) (Ty.dflt t35)).fst,
 refMap (List.getD x.fst (Int.toNat a_1) (Ty.dflt t35)).snd.fst
 (List.getD x.fst (Int.toNat a_1) (Ty.dflt t35)).snd.snd.fst
 x.snd.fst (0 : Int),
 (List.getD x.fst (Int.toNat a_1) (Ty.dflt t35)).snd.snd)] ≤
 maxLen ∧
 ((IntKind.wrap IntKind.i64 (a_1 + (1 : Int)) =
 IntKind.wrap IntKind.i64 (a_1 + (1 : Int)) ∧
 True ∧
 x.snd.fst = x.snd.fst ∧
 x.fst = x.fst ∧
 (↑(List.length x.fst) : Int) = (↑(List.length x.fst) : Int)) ∧
 a ++
 [((List.getD x.fst (Int.toNat a_1) (Ty.dflt t35)).fst,
 refMap (List.getD x.fst (Int.toNat a_1) (Ty.dflt t35)).snd.fst
 (List.getD x.fst (Int.toNat a_1) (Ty.dflt t35)).snd.snd.fst
 x.snd.fst (0 : Int),
 (List.getD x.fst (Int.toNat a_1) (Ty.dflt t35)).snd.snd)] =
 a ++
 [((List.getD x.fst (Int.toNat a_1) (Ty.dflt t35)).fst,
 refMap (List.getD x.fst (Int.toNat a_1) (Ty.dflt t35)).snd.fst
 (List.getD x.fst (Int.toNat a_1) (Ty.dflt t35)).snd.snd.fst
 x.snd.fst (0 : Int),
 (List.getD x.fst (Int.toNat a_1) (Ty.dflt t35)).snd.snd)] ∧
 True) ∧
 Z
 (a ++
 [((List.getD x.fst (Int.toNat a_1) (Ty.dflt t35)).fst,
 refMap (List.getD x.fst (Int.toNat a_1) (Ty.dflt t35)).snd.fst
 (List.getD x.fst (Int.toNat a_1) (Ty.dflt t35)).snd.snd.fst
 x.snd.fst (0 : Int),
 (List.getD x.fst (Int.toNat a_1) (Ty.dflt t35)).snd.snd)],
 IntKind.wrap IntKind.i64 (a_1 + (1 : Int)), ()) ∧
 μ
 (a ++
 [((List.getD x.fst (Int.toNat a_1) (Ty.dflt t35)).fst,
 refMap
 (List.getD x.fst (Int.toNat a_1) (Ty.dflt t35)).snd.fst
 (List.getD x.fst (Int.toNat a_1)
 (Ty.dflt t35)).snd.snd.fst
 x.snd.fst (0 : Int),
 (List.getD x.fst (Int.toNat a_1) (Ty.dflt t35)).snd.snd)],
 IntKind.wrap IntKind.i64 (a_1 + (1 : Int)), ()) <
 μ (a, a_1, ())) ∧
 (List.length x.snd.fst ≤ maxLen ∧
 normal x.snd.fst = true ∧
 (0 : Int) ≤ (List.getD x.fst (Int.toNat a_1) (Ty.dflt t35)).snd.fst ∧
 (List.getD x.fst (Int.toNat a_1) (Ty.dflt t35)).snd.fst ≤
 (1099511627776 : Int)) ∧
 (List.length a +
 List.length
 [((List.getD x.fst (Int.toNat a_1) (Ty.dflt t35)).fst,
 refMap (List.getD x.fst (Int.toNat a_1) (Ty.dflt t35)).snd.fst
 (List.getD x.fst (Int.toNat a_1) (Ty.dflt t35)).snd.snd.fst
 x.snd.fst (0 : Int),
 (List.getD x.fst (Int.toNat a_1) (Ty.dflt t35)).snd.snd)]) *
 (24 : Nat) ≤
 (140737488355328 : Nat) ∧
 List.length a +
 List.length
 [((List.getD x.fst (Int.toNat a_1) (Ty.dflt t35)).fst,
 refMap (List.getD x.fst (Int.toNat a_1) (Ty.dflt t35)).snd.fst
 (List.getD x.fst (Int.toNat a_1) (Ty.dflt t35)).snd.snd.fst
 x.snd.fst (0 : Int),
 (List.getD x.fst (Int.toNat a_1) (Ty.dflt t35)).snd.snd)] ≤
 maxLen ∧
 ((IntKind.wrap IntKind.i64 (a_1 + (1 : Int)) =
 IntKind.wrap IntKind.i64 (a_1 + (1 : Int)) ∧
 True ∧
 x.snd.fst = x.snd.fst ∧
 x.fst = x.fst ∧
 (↑(List.length x.fst) : Int) = (↑(List.length x.fst) : Int)) ∧
 a ++
 [((List.getD x.fst (Int.toNat a_1) (Ty.dflt t35)).fst,
 refMap (List.getD x.fst (Int.toNat a_1) (Ty.dflt t35)).snd.fst
 (List.getD x.fst (Int.toNat a_1) (Ty.dflt t35)).snd.snd.fst
 x.snd.fst (0 : Int),
 (List.getD x.fst (Int.toNat a_1) (Ty.dflt t35)).snd.snd)] =
 a ++
 [((List.getD x.fst (Int.toNat a_1) (Ty.dflt t35)).fst,
 refMap (List.getD x.fst (Int.toNat a_1) (Ty.dflt t35)).snd.fst
 (List.getD x.fst (Int.toNat a_1) (Ty.dflt t35)).snd.snd.fst
 x.snd.fst (0 : Int),
 (List.getD x.fst (Int.toNat a_1) (Ty.dflt t35)).snd.snd)] ∧
 True) ∧
 Z
 (a ++
 [((List.getD x.fst (Int.toNat a_1) (Ty.dflt t35)).fst,
 refMap (List.getD x.fst (Int.toNat a_1) (Ty.dflt t35)).snd.fst
 (List.getD x.fst (Int.toNat a_1) (Ty.dflt t35)).snd.snd.fst
 x.snd.fst (0 : Int),
 (List.getD x.fst (Int.toNat a_1) (Ty.dflt t35)).snd.snd)],
 IntKind.wrap IntKind.i64 (a_1 + (1 : Int)), ()) ∧
 μ
 (a ++
 [((List.getD x.fst (Int.toNat a_1) (Ty.dflt t35)).fst,
 refMap
 (List.getD x.fst (Int.toNat a_1) (Ty.dflt t35)).snd.fst
 (List.getD x.fst (Int.toNat a_1)
 (Ty.dflt t35)).snd.snd.fst
 x.snd.fst (0 : Int),
 (List.getD x.fst (Int.toNat a_1) (Ty.dflt t35)).snd.snd)],
 IntKind.wrap IntKind.i64 (a_1 + (1 : Int)), ()) <
 μ (a, a_1, ())) ∧
 ((List.length x.snd.fst ≤ maxLen ∧
 normal x.snd.fst = true ∧
 (0 : Int) ≤ (List.getD x.fst (Int.toNat a_1) (Ty.dflt t35)).snd.fst ∧
 (List.getD x.fst (Int.toNat a_1) (Ty.dflt t35)).snd.fst ≤
 (1099511627776 : Int)) ∧
 (List.length a +
 List.length
 [((List.getD x.fst (Int.toNat a_1) (Ty.dflt t35)).fst,
 refMap (List.getD x.fst (Int.toNat a_1) (Ty.dflt t35)).snd.fst
 (List.getD x.fst (Int.toNat a_1) (Ty.dflt t35)).snd.snd.fst
 x.snd.fst (0 : Int),
 (List.getD x.fst (Int.toNat a_1) (Ty.dflt t35)).snd.snd)]) *
 (24 : Nat) ≤
 (140737488355328 : Nat) ∧
 List.length a +
 List.length
 [((List.getD x.fst (Int.toNat a_1) (Ty.dflt t35)).fst,
 refMap (List.getD x.fst (Int.toNat a_1) (Ty.dflt t35)).snd.fst
 (List.getD x.fst (Int.toNat a_1) (Ty.dflt t35)).snd.snd.fst
 x.snd.fst (0 : Int),
 (List.getD x.fst (Int.toNat a_1) (Ty.dflt t35)).snd.snd)] ≤
 maxLen ∧
 ((IntKind.wrap IntKind.i64 (a_1 + (1 : Int)) =
 IntKind.wrap IntKind.i64 (a_1 + (1 : Int)) ∧
 True ∧
 x.snd.fst = x.snd.fst ∧
 x.fst = x.fst ∧
 (↑(List.length x.fst) : Int) = (↑(List.length x.fst) : Int)) ∧
 a ++
 [((List.getD x.fst (Int.toNat a_1) (Ty.dflt t35)).fst,
 refMap (List.getD x.fst (Int.toNat a_1) (Ty.dflt t35)).snd.fst
 (List.getD x.fst (Int.toNat a_1) (Ty.dflt t35)).snd.snd.fst
 x.snd.fst (0 : Int),
 (List.getD x.fst (Int.toNat a_1) (Ty.dflt t35)).snd.snd)] =
 a ++
 [((List.getD x.fst (Int.toNat a_1) (Ty.dflt t35)).fst,
 refMap (List.getD x.fst (Int.toNat a_1) (Ty.dflt t35)).snd.fst
 (List.getD x.fst (Int.toNat a_1) (Ty.dflt t35)).snd.snd.fst
 x.snd.fst (0 : Int),
 (List.getD x.fst (Int.toNat a_1) (Ty.dflt t35)).snd.snd)] ∧
 True) ∧
 Z
 (a ++
 [((List.getD x.fst (Int.toNat a_1) (Ty.dflt t35)).fst,
 refMap (List.getD x.fst (Int.toNat a_1) (Ty.dflt t35)).snd.fst
 (List.getD x.fst (Int.toNat a_1) (Ty.dflt t35)).snd.snd.fst
 x.snd.fst (0 : Int),
 (List.getD x.fst (Int.toNat a_1) (Ty.dflt t35)).snd.snd)],
 IntKind.wrap IntKind.i64 (a_1 + (1 : Int)), ()) ∧
 μ
 (a ++
 [((List.getD x.fst (Int.toNat a_1) (Ty.dflt t35)).fst,
 refMap (List.getD x.fst (Int.toNat a_1) (Ty.dflt t35)).snd.fst
 (List.getD x.fst (Int.toNat a_1) (Ty.dflt t35)).snd.snd.fst
 x.snd.fst (0 : Int),
 (List.getD x.fst (Int.toNat a_1) (Ty.dflt t35)).snd.snd)],
 IntKind.wrap IntKind.i64 (a_1 + (1 : Int)), ()) <
 μ (a, a_1, ())) ∧
 ((List.length x.snd.fst ≤ maxLen ∧
 normal x.snd.fst = true ∧
 (0 : Int) ≤ (List.getD x.fst (Int.toNat a_1) (Ty.dflt t35)).snd.fst ∧
 (List.getD x.fst (Int.toNat a_1) (Ty.dflt t35)).snd.fst ≤
 (1099511627776 : Int)) ∧
 (List.length a +
 List.length
 [((List.getD x.fst (Int.toNat a_1) (Ty.dflt t35)).fst,
 refMap (List.getD x.fst (Int.toNat a_1) (Ty.dflt t35)).snd.fst
 (List.getD x.fst (Int.toNat a_1) (Ty.dflt t35)).snd.snd.fst
 x.snd.fst (0 : Int),
 (List.getD x.fst (Int.toNat a_1) (Ty.dflt t35)).snd.snd)]) *
 (24 : Nat) ≤
 (140737488355328 : Nat) ∧
 List.length a +
 List.length
 [((List.getD x.fst (Int.toNat a_1) (Ty.dflt t35)).fst,
 refMap (List.getD x.fst (Int.toNat a_1) (Ty.dflt t35)).snd.fst
 (List.getD x.fst (Int.toNat a_1) (Ty.dflt t35)).snd.snd.fst
 x.snd.fst (0 : Int),
 (List.getD x.fst (Int.toNat a_1) (Ty.dflt t35)).snd.snd)] ≤
 maxLen ∧
 ((IntKind.wrap IntKind.i64 (a_1 + (1 : Int)) =
 IntKind.wrap IntKind.i64 (a_1 + (1 : Int)) ∧
 True ∧
 x.snd.fst = x.snd.fst ∧
 x.fst = x.fst ∧
 (↑(List.length x.fst) : Int) = (↑(List.length x.fst) : Int)) ∧
 a ++
 [((List.getD x.fst (Int.toNat a_1) (Ty.dflt t35)).fst,
 refMap (List.getD x.fst (Int.toNat a_1) (Ty.dflt t35)).snd.fst
 (List.getD x.fst (Int.toNat a_1) (Ty.dflt t35)).snd.snd.fst
 x.snd.fst (0 : Int),
 (List.getD x.fst (Int.toNat a_1) (Ty.dflt t35)).snd.snd)] =
 a ++
 [((List.getD x.fst (Int.toNat a_1) (Ty.dflt t35)).fst,
 refMap (List.getD x.fst (Int.toNat a_1) (Ty.dflt t35)).snd.fst
 (List.getD x.fst (Int.toNat a_1) (Ty.dflt t35)).snd.snd.fst
 x.snd.fst (0 : Int),
 (List.getD x.fst (Int.toNat a_1) (Ty.dflt t35)).snd.snd)] ∧
 True) ∧
 Z
 (a ++
 [((List.getD x.fst (Int.toNat a_1) (Ty.dflt t35)).fst,
 refMap (List.getD x.fst (Int.toNat a_1) (Ty.dflt t35)).snd.fst
 (List.getD x.fst (Int.toNat a_1) (Ty.dflt t35)).snd.snd.fst
 x.snd.fst (0 : Int),
 (List.getD x.fst (Int.toNat a_1) (Ty.dflt t35)).snd.snd)],
 IntKind.wrap IntKind.i64 (a_1 + (1 : Int)), ()) ∧
 μ
 (a ++
 [((List.getD x.fst (Int.toNat a_1) (Ty.dflt t35)).fst,
 refMap (List.getD x.fst (Int.toNat a_1) (Ty.dflt t35)).snd.fst
 (List.getD x.fst (Int.toNat a_1) (Ty.dflt t35)).snd.snd.fst
 x.snd.fst (0 : Int),
 (List.getD x.fst (Int.toNat a_1) (Ty.dflt t35)).snd.snd)],
 IntKind.wrap IntKind.i64 (a_1 + (1 : Int)), ()) <
 μ (a, a_1, ())) ∧
 (List.length x.snd.fst ≤ maxLen ∧
 normal x.snd.fst = true ∧
 (0 : Int) ≤ (List.getD x.fst (Int.toNat a_1) (Ty.dflt t35)).snd.fst ∧
 (List.getD x.fst (Int.toNat a_1) (Ty.dflt t35)).snd.fst ≤
 (1099511627776 : Int)) ∧
 (List.length a +
 List.length
 [((List.getD x.fst (Int.toNat a_1) (Ty.dflt t35)).fst,
 refMap (List.getD x.fst (Int.toNat a_1) (Ty.dflt t35)).snd.fst
 (List.getD x.fst (Int.toNat a_1) (Ty.dflt t35)).snd.snd.fst
 x.snd.fst (0 : Int),
 (List.getD x.fst (Int.toNat a_1) (Ty.dflt t35)).snd.snd)]) *
 (24 : Nat) ≤
 (140737488355328 : Nat) ∧
 List.length a +
 List.length
 [((List.getD x.fst (Int.toNat a_1) (Ty.dflt t35)).fst,
 refMap (List.getD x.fst (Int.toNat a_1) (Ty.dflt t35)).snd.fst
 (List.getD x.fst (Int.toNat a_1) (Ty.dflt t35)).snd.snd.fst
 x.snd.fst (0 : Int),
 (List.getD x.fst (Int.toNat a_1) (Ty.dflt t35)).snd.snd)] ≤
 maxLen ∧
 ((IntKind.wrap IntKind.i64 (a_1 + (1 : Int)) =
 IntKind.wrap IntKind.i64 (a_1 + (1 : Int)) ∧
 True ∧
 x.snd.fst = x.snd.fst ∧
 x.fst = x.fst ∧
 (↑(List.length x.fst) : Int) = (↑(List.length x.fst) : Int)) ∧
 a ++
 [((List.getD x.fst (Int.toNat a_1) (Ty.dflt t35)).fst,
 refMap (List.getD x.fst (Int.toNat a_1) (Ty.dflt t35)).snd.fst
 (List.getD x.fst (Int.toNat a_1) (Ty.dflt t35)).snd.snd.fst
 x.snd.fst (0 : Int),
 (List.getD x.fst (Int.toNat a_1) (Ty.dflt t35)).snd.snd)] =
 a ++
 [((List.getD x.fst (Int.toNat a_1) (Ty.dflt t35)).fst,
 refMap (List.getD x.fst (Int.toNat a_1) (Ty.dflt t35)).snd.fst
 (List.getD x.fst (Int.toNat a_1) (Ty.dflt t35)).snd.snd.fst
 x.snd.fst (0 : Int),
 (List.getD x.fst (Int.toNat a_1) (Ty.dflt t35)).snd.snd)] ∧
 True) ∧
 Z
 (a ++
 [((List.getD x.fst (Int.toNat a_1) (Ty.dflt t35)).fst,
 refMap (List.getD x.fst (Int.toNat a_1) (Ty.dflt t35)).snd.fst
 (List.getD x.fst (Int.toNat a_1) (Ty.dflt t35)).snd.snd.fst
 x.snd.fst (0 : Int),
 (List.getD x.fst (Int.toNat a_1) (Ty.dflt t35)).snd.snd)],
 IntKind.wrap IntKind.i64 (a_1 + (1 : Int)), ()) ∧
 μ
 (a ++
 [((List.getD x.fst (Int.toNat a_1) (Ty.dflt t35)).fst,
 refMap (List.getD x.fst (Int.toNat a_1) (Ty.dflt t35)).snd.fst
 (List.getD x.fst (Int.toNat a_1) (Ty.dflt t35)).snd.snd.fst
 x.snd.fst (0 : Int),
 (List.getD x.fst (Int.toNat a_1) (Ty.dflt t35)).snd.snd)],
 IntKind.wrap IntKind.i64 (a_1 + (1 : Int)), ()) <
 μ (a, a_1, ())) ∧
 (((List.length x.snd.fst ≤ maxLen ∧
 normal x.snd.fst = true ∧
 (0 : Int) ≤ (List.getD x.fst (Int.toNat a_1) (Ty.dflt t35)).snd.fst ∧
 (List.getD x.fst (Int.toNat a_1) (Ty.dflt t35)).snd.fst ≤
 (1099511627776 : Int)) ∧
 (List.length a +
 List.length
 [((List.getD x.fst (Int.toNat a_1) (Ty.dflt t35)).fst,
 refMap (List.getD x.fst (Int.toNat a_1) (Ty.dflt t35)).snd.fst
 (List.getD x.fst (Int.toNat a_1) (Ty.dflt t35)).snd.snd.fst x.snd.fst
 (0 : Int),
 (List.getD x.fst (Int.toNat a_1) (Ty.dflt t35)).snd.snd)]) *
 (24 : Nat) ≤
 (140737488355328 : Nat) ∧
 List.length a +
 List.length
 [((List.getD x.fst (Int.toNat a_1) (Ty.dflt t35)).fst,
 refMap (List.getD x.fst (Int.toNat a_1) (Ty.dflt t35)).snd.fst
 (List.getD x.fst (Int.toNat a_1) (Ty.dflt t35)).snd.snd.fst x.snd.fst
 (0 : Int),
 (List.getD x.fst (Int.toNat a_1) (Ty.dflt t35)).snd.snd)] ≤
 maxLen ∧
 ((IntKind.wrap IntKind.i64 (a_1 + (1 : Int)) =
 IntKind.wrap IntKind.i64 (a_1 + (1 : Int)) ∧
 True ∧
 x.snd.fst = x.snd.fst ∧
 x.fst = x.fst ∧
 (↑(List.length x.fst) : Int) = (↑(List.length x.fst) : Int)) ∧
 a ++
 [((List.getD x.fst (Int.toNat a_1) (Ty.dflt t35)).fst,
 refMap (List.getD x.fst (Int.toNat a_1) (Ty.dflt t35)).snd.fst
 (List.getD x.fst (Int.toNat a_1) (Ty.dflt t35)).snd.snd.fst
 x.snd.fst (0 : Int),
 (List.getD x.fst (Int.toNat a_1) (Ty.dflt t35)).snd.snd)] =
 a ++
 [((List.getD x.fst (Int.toNat a_1) (Ty.dflt t35)).fst,
 refMap (List.getD x.fst (Int.toNat a_1) (Ty.dflt t35)).snd.fst
 (List.getD x.fst (Int.toNat a_1) (Ty.dflt t35)).snd.snd.fst
 x.snd.fst (0 : Int),
 (List.getD x.fst (Int.toNat a_1) (Ty.dflt t35)).snd.snd)] ∧
 True) ∧
 Z
 (a ++
 [((List.getD x.fst (Int.toNat a_1) (Ty.dflt t35)).fst,
 refMap (List.getD x.fst (Int.toNat a_1) (Ty.dflt t35)).snd.fst
 (List.getD x.fst (Int.toNat a_1) (Ty.dflt t35)).snd.snd.fst
 x.snd.fst (0 : Int),
 (List.getD x.fst (Int.toNat a_1) (Ty.dflt t35)).snd.snd)],
 IntKind.wrap IntKind.i64 (a_1 + (1 : Int)), ()) ∧
 μ
 (a ++
 [((List.getD x.fst (Int.toNat a_1) (Ty.dflt t35)).fst,
 refMap (List.getD x.fst (Int.toNat a_1) (Ty.dflt t35)).snd.fst
 (List.getD x.fst (Int.toNat a_1) (Ty.dflt t35)).snd.snd.fst
 x.snd.fst (0 : Int),
 (List.getD x.fst (Int.toNat a_1) (Ty.dflt t35)).snd.snd)],
 IntKind.wrap IntKind.i64 (a_1 + (1 : Int)), ()) <
 μ (a, a_1, ())) ∧
 (List.length x.snd.fst ≤ maxLen ∧
 normal x.snd.fst = true ∧
 (0 : Int) ≤ (List.getD x.fst (Int.toNat a_1) (Ty.dflt t35)).snd.fst ∧
 (List.getD x.fst (Int.toNat a_1) (Ty.dflt t35)).snd.fst ≤
 (1099511627776 : Int)) ∧
 (List.length a +
 List.length
 [((List.getD x.fst (Int.toNat a_1) (Ty.dflt t35)).fst,
 refMap (List.getD x.fst (Int.toNat a_1) (Ty.dflt t35)).snd.fst
 (List.getD x.fst (Int.toNat a_1) (Ty.dflt t35)).snd.snd.fst x.snd.fst
 (0 : Int),
 (List.getD x.fst (Int.toNat a_1) (Ty.dflt t35)).snd.snd)]) *
 (24 : Nat) ≤
 (140737488355328 : Nat) ∧
 List.length a +
 List.length
 [((List.getD x.fst (Int.toNat a_1) (Ty.dflt t35)).fst,
 refMap (List.getD x.fst (Int.toNat a_1) (Ty.dflt t35)).snd.fst
 (List.getD x.fst (Int.toNat a_1) (Ty.dflt t35)).snd.snd.fst x.snd.fst
 (0 : Int),
 (List.getD x.fst (Int.toNat a_1) (Ty.dflt t35)).snd.snd)] ≤
 maxLen ∧
 ((IntKind.wrap IntKind.i64 (a_1 + (1 : Int)) =
 IntKind.wrap IntKind.i64 (a_1 + (1 : Int)) ∧
 True ∧
 x.snd.fst = x.snd.fst ∧
 x.fst = x.fst ∧
 (↑(List.length x.fst) : Int) = (↑(List.length x.fst) : Int)) ∧
 a ++
 [((List.getD x.fst (Int.toNat a_1) (Ty.dflt t35)).fst,
 refMap (List.getD x.fst (Int.toNat a_1) (Ty.dflt t35)).snd.fst
 (List.getD x.fst (Int.toNat a_1) (Ty.dflt t35)).snd.snd.fst
 x.snd.fst (0 : Int),
 (List.getD x.fst (Int.toNat a_1) (Ty.dflt t35)).snd.snd)] =
 a ++
 [((List.getD x.fst (Int.toNat a_1) (Ty.dflt t35)).fst,
 refMap (List.getD x.fst (Int.toNat a_1) (Ty.dflt t35)).snd.fst
 (List.getD x.fst (Int.toNat a_1) (Ty.dflt t35)).snd.snd.fst
 x.snd.fst (0 : Int),
 (List.getD x.fst (Int.toNat a_1) (Ty.dflt t35)).snd.snd)] ∧
 True) ∧
 Z
 (a ++
 [((List.getD x.fst (Int.toNat a_1) (Ty.dflt t35)).fst,
 refMap (List.getD x.fst (Int.toNat a_1) (Ty.dflt t35)).snd.fst
 (List.getD x.fst (Int.toNat a_1) (Ty.dflt t35)).snd.snd.fst
 x.snd.fst (0 : Int),
 (List.getD x.fst (Int.toNat a_1) (Ty.dflt t35)).snd.snd)],
 IntKind.wrap IntKind.i64 (a_1 + (1 : Int)), ()) ∧
 μ
 (a ++
 [((List.getD x.fst (Int.toNat a_1) (Ty.dflt t35)).fst,
 refMap (List.getD x.fst (Int.toNat a_1) (Ty.dflt t35)).snd.fst
 (List.getD x.fst (Int.toNat a_1) (Ty.dflt t35)).snd.snd.fst
 x.snd.fst (0 : Int),
 (List.getD x.fst (Int.toNat a_1) (Ty.dflt t35)).snd.snd)],
 IntKind.wrap IntKind.i64 (a_1 + (1 : Int)), ()) <
 μ (a, a_1, ())) ∧
 (((List.length x.snd.fst ≤ maxLen ∧
 normal x.snd.fst = true ∧
 (0 : Int) ≤ (List.getD x.fst (Int.toNat a_1) (Ty.dflt t35)).snd.fst ∧
 (List.getD x.fst (Int.toNat a_1) (Ty.dflt t35)).snd.fst ≤
 (1099511627776 : Int)) ∧
 (List.length a +
 List.length
 [((List.getD x.fst (Int.toNat a_1) (Ty.dflt t35)).fst,
 refMap (List.getD x.fst (Int.toNat a_1) (Ty.dflt t35)).snd.fst
 (List.getD x.fst (Int.toNat a_1) (Ty.dflt t35)).snd.snd.fst
 x.snd.fst (0 : Int),
 (List.getD x.fst (Int.toNat a_1) (Ty.dflt t35)).snd.snd)]) *
 (24 : Nat) ≤
 (140737488355328 : Nat) ∧
 List.length a +
 List.length
 [((List.getD x.fst (Int.toNat a_1) (Ty.dflt t35)).fst,
 refMap (List.getD x.fst (Int.toNat a_1) (Ty.dflt t35)).snd.fst
 (List.getD x.fst (Int.toNat a_1) (Ty.dflt t35)).snd.snd.fst
 x.snd.fst (0 : Int),
 (List.getD x.fst (Int.toNat a_1) (Ty.dflt t35)).snd.snd)] ≤
 maxLen ∧
 ((IntKind.wrap IntKind.i64 (a_1 + (1 : Int)) =
 IntKind.wrap IntKind.i64 (a_1 + (1 : Int)) ∧
 True ∧
 x.snd.fst = x.snd.fst ∧
 x.fst = x.fst ∧
 (↑(List.length x.fst) : Int) = (↑(List.length x.fst) : Int)) ∧
 a ++
 [((List.getD x.fst (Int.toNat a_1) (Ty.dflt t35)).fst,
 refMap (List.getD x.fst (Int.toNat a_1) (Ty.dflt t35)).snd.fst
 (List.getD x.fst (Int.toNat a_1) (Ty.dflt t35)).snd.snd.fst
 x.snd.fst (0 : Int),
 (List.getD x.fst (Int.toNat a_1) (Ty.dflt t35)).snd.snd)] =
 a ++
 [((List.getD x.fst (Int.toNat a_1) (Ty.dflt t35)).fst,
 refMap (List.getD x.fst (Int.toNat a_1) (Ty.dflt t35)).snd.fst
 (List.getD x.fst (Int.toNat a_1) (Ty.dflt t35)).snd.snd.fst
 x.snd.fst (0 : Int),
 (List.getD x.fst (Int.toNat a_1) (Ty.dflt t35)).snd.snd)] ∧
 True) ∧
 Z
 (a ++
 [((List.getD x.fst (Int.toNat a_1) (Ty.dflt t35)).fst,
 refMap (List.getD x.fst (Int.toNat a_1) (Ty.dflt t35)).snd.fst
 (List.getD x.fst (Int.toNat a_1) (Ty.dflt t35)).snd.snd.fst
 x.snd.fst (0 : Int),
 (List.getD x.fst (Int.toNat a_1) (Ty.dflt t35)).snd.snd)],
 IntKind.wrap IntKind.i64 (a_1 + (1 : Int)), ()) ∧
 μ
 (a ++
 [((List.getD x.fst (Int.toNat a_1) (Ty.dflt t35)).fst,
 refMap (List.getD x.fst (Int.toNat a_1) (Ty.dflt t35)).snd.fst
 (List.getD x.fst (Int.toNat a_1) (Ty.dflt t35)).snd.snd.fst
 x.snd.fst (0 : Int),
 (List.getD x.fst (Int.toNat a_1) (Ty.dflt t35)).snd.snd)],
 IntKind.wrap IntKind.i64 (a_1 + (1 : Int)), ()) <
 μ (a, a_1, ())) ∧
 ((List.length x.snd.fst ≤ maxLen ∧
 normal x.snd.fst = true ∧
 (0 : Int) ≤ (List.getD x.fst (Int.toNat a_1) (Ty.dflt t35)).snd.fst ∧
 (List.getD x.fst (Int.toNat a_1) (Ty.dflt t35)).snd.fst ≤
 (1099511627776 : Int)) ∧
 (List.length a +
 List.length
 [((List.getD x.fst (Int.toNat a_1) (Ty.dflt t35)).fst,
 refMap (List.getD x.fst (Int.toNat a_1) (Ty.dflt t35)).snd.fst
 (List.getD x.fst (Int.toNat a_1) (Ty.dflt t35)).snd.snd.fst
 x.snd.fst (0 : Int),
 (List.getD x.fst (Int.toNat a_1) (Ty.dflt t35)).snd.snd)]) *
 (24 : Nat) ≤
 (140737488355328 : Nat) ∧
 List.length a +
 List.length
 [((List.getD x.fst (Int.toNat a_1) (Ty.dflt t35)).fst,
 refMap (List.getD x.fst (Int.toNat a_1) (Ty.dflt t35)).snd.fst
 (List.getD x.fst (Int.toNat a_1) (Ty.dflt t35)).snd.snd.fst
 x.snd.fst (0 : Int),
 (List.getD x.fst (Int.toNat a_1) (Ty.dflt t35)).snd.snd)] ≤
 maxLen ∧
 ((IntKind.wrap IntKind.i64 (a_1 + (1 : Int)) =
 IntKind.wrap IntKind.i64 (a_1 + (1 : Int)) ∧
 True ∧
 x.snd.fst = x.snd.fst ∧
 x.fst = x.fst ∧
 (↑(List.length x.fst) : Int) = (↑(List.length x.fst) : Int)) ∧
 a ++
 [((List.getD x.fst (Int.toNat a_1) (Ty.dflt t35)).fst,
 refMap (List.getD x.fst (Int.toNat a_1) (Ty.dflt t35)).snd.fst
 (List.getD x.fst (Int.toNat a_1) (Ty.dflt t35)).snd.snd.fst
 x.snd.fst (0 : Int),
 (List.getD x.fst (Int.toNat a_1) (Ty.dflt t35)).snd.snd)] =
 a ++
 [((List.getD x.fst (Int.toNat a_1) (Ty.dflt t35)).fst,
 refMap (List.getD x.fst (Int.toNat a_1) (Ty.dflt t35)).snd.fst
 (List.getD x.fst (Int.toNat a_1) (Ty.dflt t35)).snd.snd.fst
 x.snd.fst (0 : Int),
 (List.getD x.fst (Int.toNat a_1) (Ty.dflt t35)).snd.snd)] ∧
 True) ∧
 Z
 (a ++
 [((List.getD x.fst (Int.toNat a_1) (Ty.dflt t35)).fst,
 refMap (List.getD x.fst (Int.toNat a_1) (Ty.dflt t35)).snd.fst
 (List.getD x.fst (Int.toNat a_1) (Ty.dflt t35)).snd.snd.fst
 x.snd.fst (0 : Int),
 (List.getD x.fst (Int.toNat a_1) (Ty.dflt t35)).snd.snd)],
 IntKind.wrap IntKind.i64 (a_1 + (1 : Int)), ()) ∧
 μ
 (a ++
 [((List.getD x.fst (Int.toNat a_1) (Ty.dflt t35)).fst,
 refMap (List.getD x.fst (Int.toNat a_1) (Ty.dflt t35)).snd.fst
 (List.getD x.fst (Int.toNat a_1) (Ty.dflt t35)).snd.snd.fst
 x.snd.fst (0 : Int),
 (List.getD x.fst (Int.toNat a_1) (Ty.dflt t35)).snd.snd)],
 IntKind.wrap IntKind.i64 (a_1 + (1 : Int)), ()) <
 μ (a, a_1, ())) ∧
 (List.length x.snd.fst ≤ maxLen ∧
 normal x.snd.fst = true ∧
 (0 : Int) ≤ (List.getD x.fst (Int.toNat a_1) (Ty.dflt t35)).snd.fst ∧
 (List.getD x.fst (Int.toNat a_1) (Ty.dflt t35)).snd.fst ≤
 (1099511627776 : Int)) ∧
 (List.length a +
 List.length
 [((List.getD x.fst (Int.toNat a_1) (Ty.dflt t35)).fst,
 refMap (List.getD x.fst (Int.toNat a_1) (Ty.dflt t35)).snd.fst
 (List.getD x.fst (Int.toNat a_1) (Ty.dflt t35)).snd.snd.fst
 x.snd.fst (0 : Int),
 (List.getD x.fst (Int.toNat a_1) (Ty.dflt t35)).snd.snd)]) *
 (24 : Nat) ≤
 (140737488355328 : Nat) ∧
 List.length a +
 List.length
 [((List.getD x.fst (Int.toNat a_1) (Ty.dflt t35)).fst,
 refMap (List.getD x.fst (Int.toNat a_1) (Ty.dflt t35)).snd.fst
 (List.getD x.fst (Int.toNat a_1) (Ty.dflt t35)).snd.snd.fst
 x.snd.fst (0 : Int),
 (List.getD x.fst (Int.toNat a_1) (Ty.dflt t35)).snd.snd)] ≤
 maxLen ∧
 ((IntKind.wrap IntKind.i64 (a_1 + (1 : Int)) =
 IntKind.wrap IntKind.i64 (a_1 + (1 : Int)) ∧
 True ∧
 x.snd.fst = x.snd.fst ∧
 x.fst = x.fst ∧
 (↑(List.length x.fst) : Int) = (↑(List.length x.fst) : Int)) ∧
 a ++
 [((List.getD x.fst (Int.toNat a_1) (Ty.dflt t35)).fst,
 refMap (List.getD x.fst (Int.toNat a_1) (Ty.dflt t35)).snd.fst
 (List.getD x.fst (Int.toNat a_1) (Ty.dflt t35)).snd.snd.fst
 x.snd.fst (0 : Int),
 (List.getD x.fst (Int.toNat a_1) (Ty.dflt t35)).snd.snd)] =
 a ++
 [((List.getD x.fst (Int.toNat a_1) (Ty.dflt t35)).fst,
 refMap (List.getD x.fst (Int.toNat a_1) (Ty.dflt t35)).snd.fst
 (List.getD x.fst (Int.toNat a_1) (Ty.dflt t35)).snd.snd.fst
 x.snd.fst (0 : Int),
 (List.getD x.fst (Int.toNat a_1) (Ty.dflt t35)).snd.snd)] ∧
 True) ∧
 Z
 (a ++
 [((List.getD x.fst (Int.toNat a_1) (Ty.dflt t35)).fst,
 refMap (List.getD x.fst (Int.toNat a_1) (Ty.dflt t35)).snd.fst
 (List.getD x.fst (Int.toNat a_1) (Ty.dflt t35)).snd.snd.fst
 x.snd.fst (0 : Int),
 (List.getD x.fst (Int.toNat a_1) (Ty.dflt t35)).snd.snd)],
 IntKind.wrap IntKind.i64 (a_1 + (1 : Int)), ()) ∧
 μ
 (a ++
 [((List.getD x.fst (Int.toNat a_1) (Ty.dflt t35)).fst,
 refMap (List.getD x.fst (Int.toNat a_1) (Ty.dflt t35)).snd.fst
 (List.getD x.fst (Int.toNat a_1) (Ty.dflt t35)).snd.snd.fst
 x.snd.fst (0 : Int),
 (List.getD x.fst (Int.toNat a_1) (Ty.dflt t35)).snd.snd)],
 IntKind.wrap IntKind.i64 (a_1 + (1 : Int)), ()) <
 μ (a, a_1, ())) ∧
 ((List.length x.snd.fst ≤ maxLen ∧
 normal x.snd.fst = true ∧
 (0 : Int) ≤ (List.getD x.fst (Int.toNat a_1) (Ty.dflt t35)).snd.fst ∧
 (List.getD x.fst (Int.toNat a_1) (Ty.dflt t35)).snd.fst ≤
 (1099511627776 : Int)) ∧
 (List.length a +
 List.length
 [((List.getD x.fst (Int.toNat a_1) (Ty.dflt t35)).fst,
 refMap (List.getD x.fst (Int.toNat a_1) (Ty.dflt t35)).snd.fst
 (List.getD x.fst (Int.toNat a_1) (Ty.dflt t35)).snd.snd.fst
 x.snd.fst (0 : Int),
 (List.getD x.fst (Int.toNat a_1) (Ty.dflt t35)).snd.snd)]) *
 (24 : Nat) ≤
 (140737488355328 : Nat) ∧
 List.length a +
 List.length
 [((List.getD x.fst (Int.toNat a_1) (Ty.dflt t35)).fst,
 refMap (List.getD x.fst (Int.toNat a_1) (Ty.dflt t35)).snd.fst
 (List.getD x.fst (Int.toNat a_1) (Ty.dflt t35)).snd.snd.fst
 x.snd.fst (0 : Int),
 (List.getD x.fst (Int.toNat a_1) (Ty.dflt t35)).snd.snd)] ≤
 maxLen ∧
 ((IntKind.wrap IntKind.i64 (a_1 + (1 : Int)) =
 IntKind.wrap IntKind.i64 (a_1 + (1 : Int)) ∧
 True ∧
 x.snd.fst = x.snd.fst ∧
 x.fst = x.fst ∧
 (↑(List.length x.fst) : Int) = (↑(List.length x.fst) : Int)) ∧
 a ++
 [((List.getD x.fst (Int.toNat a_1) (Ty.dflt t35)).fst,
 refMap (List.getD x.fst (Int.toNat a_1) (Ty.dflt t35)).snd.fst
 (List.getD x.fst (Int.toNat a_1) (Ty.dflt t35)).snd.snd.fst
 x.snd.fst (0 : Int),
 (List.getD x.fst (Int.toNat a_1) (Ty.dflt t35)).snd.snd)] =
 a ++
 [((List.getD x.fst (Int.toNat a_1) (Ty.dflt t35)).fst,
 refMap (List.getD x.fst (Int.toNat a_1) (Ty.dflt t35)).snd.fst
 (List.getD x.fst (Int.toNat a_1) (Ty.dflt t35)).snd.snd.fst
 x.snd.fst (0 : Int),
 (List.getD x.fst (Int.toNat a_1) (Ty.dflt t35)).snd.snd)] ∧
 True) ∧
 Z
 (a ++
 [((List.getD x.fst (Int.toNat a_1) (Ty.dflt t35)).fst,
 refMap (List.getD x.fst (Int.toNat a_1) (Ty.dflt t35)).snd.fst
 (List.getD x.fst (Int.toNat a_1) (Ty.dflt t35)).snd.snd.fst
 x.snd.fst (0 : Int),
 (List.getD x.fst (Int.toNat a_1) (Ty.dflt t35)).snd.snd)],
 IntKind.wrap IntKind.i64 (a_1 + (1 : Int)), ()) ∧
 μ
 (a ++
 [((List.getD x.fst (Int.toNat a_1) (Ty.dflt t35)).fst,
 refMap (List.getD x.fst (Int.toNat a_1) (Ty.dflt t35)).snd.fst
 (List.getD x.fst (Int.toNat a_1) (Ty.dflt t35)).snd.snd.fst
 x.snd.fst (0 : Int),
 (List.getD x.fst (Int.toNat a_1) (Ty.dflt t35)).snd.snd)],
 IntKind.wrap IntKind.i64 (a_1 + (1 : Int)), ()) <
 μ (a, a_1, ())) ∧
 ((List.length x.snd.fst ≤ maxLen ∧
 normal x.snd.fst = true ∧
 (0 : Int) ≤ (List.getD x.fst (Int.toNat a_1) (Ty.dflt t35)).snd.fst ∧
 (List.getD x.fst (Int.toNat a_1) (Ty.dflt t35)).snd.fst ≤
 (1099511627776 : Int)) ∧
 (List.length a +
 List.length
 [((List.getD x.fst (Int.toNat a_1) (Ty.dflt t35)).fst,
 refMap (List.getD x.fst (Int.toNat a_1) (Ty.dflt t35)).snd.fst
 (List.getD x.fst (Int.toNat a_1) (Ty.dflt t35)).snd.snd.fst
 x.snd.fst (0 : Int),
 (List.getD x.fst (Int.toNat a_1) (Ty.dflt t35)).snd.snd)]) *
 (24 : Nat) ≤
 (140737488355328 : Nat) ∧
 List.length a +
 List.length
 [((List.getD x.fst (Int.toNat a_1) (Ty.dflt t35)).fst,
 refMap (List.getD x.fst (Int.toNat a_1) (Ty.dflt t35)).snd.fst
 (List.getD x.fst (Int.toNat a_1) (Ty.dflt t35)).snd.snd.fst
 x.snd.fst (0 : Int),
 (List.getD x.fst (Int.toNat a_1) (Ty.dflt t35)).snd.snd)] ≤
 maxLen ∧
 ((IntKind.wrap IntKind.i64 (a_1 + (1 : Int)) =
 IntKind.wrap IntKind.i64 (a_1 + (1 : Int)) ∧
 True ∧
 x.snd.fst = x.snd.fst ∧
 x.fst = x.fst ∧
 (↑(List.length x.fst) : Int) = (↑(List.length x.fst) : Int)) ∧
 a ++
 [((List.getD x.fst (Int.toNat a_1) (Ty.dflt t35)).fst,
 refMap (List.getD x.fst (Int.toNat a_1) (Ty.dflt t35)).snd.fst
 (List.getD x.fst (Int.toNat a_1) (Ty.dflt t35)).snd.snd.fst
 x.snd.fst (0 : Int),
 (List.getD x.fst (Int.toNat a_1) (Ty.dflt t35)).snd.snd)] =
 a ++
 [((List.getD x.fst (Int.toNat a_1) (Ty.dflt t35)).fst,
 refMap (List.getD x.fst (Int.toNat a_1) (Ty.dflt t35)).snd.fst
 (List.getD x.fst (Int.toNat a_1) (Ty.dflt t35)).snd.snd.fst
 x.snd.fst (0 : Int),
 (List.getD x.fst (Int.toNat a_1) (Ty.dflt t35)).snd.snd)] ∧
 True) ∧
 Z
 (a ++
 [((List.getD x.fst (Int.toNat a_1) (Ty.dflt t35)).fst,
 refMap (List.getD x.fst (Int.toNat a_1) (Ty.dflt t35)).snd.fst
 (List.getD x.fst (Int.toNat a_1) (Ty.dflt t35)).snd.snd.fst
 x.snd.fst (0 : Int),
 (List.getD x.fst (Int.toNat a_1) (Ty.dflt t35)).snd.snd)],
 IntKind.wrap IntKind.i64 (a_1 + (1 : Int)), ()) ∧
 μ
 (a ++
 [((List.getD x.fst (Int.toNat a_1) (Ty.dflt t35)).fst,
 refMap (List.getD x.fst (Int.toNat a_1) (Ty.dflt t35)).snd.fst
 (List.getD x.fst (Int.toNat a_1) (Ty.dflt t35)).snd.snd.fst
 x.snd.fst (0 : Int),
 (List.getD x.fst (Int.toNat a_1) (Ty.dflt t35)).snd.snd)],
 IntKind.wrap IntKind.i64 (a_1 + (1 : Int)), ()) <
 μ (a, a_1, ())) ∧
 (List.length x.snd.fst ≤ maxLen ∧
 normal x.snd.fst = true ∧
 (0 : Int) ≤ (List.getD x.fst (Int.toNat a_1) (Ty.dflt t35)).snd.fst ∧
 (List.getD x.fst (Int.toNat a_1) (Ty.dflt t35)).snd.fst ≤
 (1099511627776 : Int)) ∧
 (List.length a +
 List.length
 [((List.getD x.fst (Int.toNat a_1) (Ty.dflt t35)).fst,
 refMap (List.getD x.fst (Int.toNat a_1) (Ty.dflt t35)).snd.fst
 (List.getD x.fst (Int.toNat a_1) (Ty.dflt t35)).snd.snd.fst
 x.snd.fst (0 : Int),
 (List.getD x.fst (Int.toNat a_1) (Ty.dflt t35)).snd.snd)]) *
 (24 : Nat) ≤
 (140737488355328 : Nat) ∧
 List.length a +
 List.length
 [((List.getD x.fst (Int.toNat a_1) (Ty.dflt t35)).fst,
 refMap (List.getD x.fst (Int.toNat a_1) (Ty.dflt t35)).snd.fst
 (List.getD x.fst (Int.toNat a_1) (Ty.dflt t35)).snd.snd.fst
 x.snd.fst (0 : Int),
 (List.getD x.fst (Int.toNat a_1) (Ty.dflt t35)).snd.snd)] ≤
 maxLen ∧
 ((IntKind.wrap IntKind.i64 (a_1 + (1 : Int)) =
 IntKind.wrap IntKind.i64 (a_1 + (1 : Int)) ∧
 True ∧
 x.snd.fst = x.snd.fst ∧
 x.fst = x.fst ∧
 (↑(List.length x.fst) : Int) = (↑(List.length x.fst) : Int)) ∧
 a ++
 [((List.getD x.fst (Int.toNat a_1) (Ty.dflt t35)).fst,
 refMap (List.getD x.fst (Int.toNat a_1) (Ty.dflt t35)).snd.fst
 (List.getD x.fst (Int.toNat a_1) (Ty.dflt t35)).snd.snd.fst
 x.snd.fst (0 : Int),
 (List.getD x.fst (Int.toNat a_1) (Ty.dflt t35)).snd.snd)] =
 a ++
 [((List.getD x.fst (Int.toNat a_1) (Ty.dflt t35)).fst,
 refMap (List.getD x.fst (Int.toNat a_1) (Ty.dflt t35)).snd.fst
 (List.getD x.fst (Int.toNat a_1) (Ty.dflt t35)).snd.snd.fst
 x.snd.fst (0 : Int),
 (List.getD x.fst (Int.toNat a_1) (Ty.dflt t35)).snd.snd)] ∧
 True) ∧
 Z
 (a ++
 [((List.getD x.fst (Int.toNat a_1) (Ty.dflt t35)).fst,
 refMap (List.getD x.fst (Int.toNat a_1) (Ty.dflt t35)).snd.fst
 (List.getD x.fst (Int.toNat a_1) (Ty.dflt t35)).snd.snd.fst
 x.snd.fst (0 : Int),
 (List.getD x.fst (Int.toNat a_1) (Ty.dflt t35)).snd.snd)],
 IntKind.wrap IntKind.i64 (a_1 + (1 : Int)), ()) ∧
 μ
 (a ++
 [((List.getD x.fst (Int.toNat a_1) (Ty.dflt t35)).fst,
 refMap (List.getD x.fst (Int.toNat a_1) (Ty.dflt t35)).snd.fst
 (List.getD x.fst (Int.toNat a_1) (Ty.dflt t35)).snd.snd.fst
 x.snd.fst (0 : Int),
 (List.getD x.fst (Int.toNat a_1) (Ty.dflt t35)).snd.snd)],
 IntKind.wrap IntKind.i64 (a_1 + (1 : Int)), ()) <
 μ (a, a_1, ())) ∧
 (decide (a_1 < (↑(List.length x.fst) : Int)) = false →
 List.length a ≤ (10000 : Nat) ∧ insA a = insA (List.map (moveR x.snd.fst) x.fst))
theorem vcEq20 : fnVC E20 Try.f20 (bodyOf Try.f20) cShifted = vc20 := by kernel_rfl
/- fn 21 -/
def hs21 : List (Nat × Nat × Hint) := [(330005, 3, ⟨[.rowS 330010 900330010 t51 51, .slot 330015 t3], [330006, 330013, 330014, 2], [], []⟩)]
def nm21 : List Nat := [3000000023]
noncomputable def E21 : Env := env tab [] [(32, Try.f32), (33, Try.f33)] noGl hs21 nm21
def vc21 : Prop :=
 ∀ (x : List Chg × Unit),
 List.length x.fst ≤ (1000000000 : Nat) →
 (((0 : Int) = (0 : Int) ∧
 True ∧
 Value.func (Fn.func (33 : Nat)) #[] #[] = Value.func (Fn.func (33 : Nat)) #[] #[] ∧
 x.fst = x.fst ∧
 (↑(List.length x.fst) : Int) = (↑(List.length x.fst) : Int) ∧
 Value.slice none (0 : Nat) (0 : Nat) = Value.slice none (0 : Nat) (0 : Nat)) ∧
 True ∧ True) ∧
 ∃ (Z : List Chg × Int × Unit → Prop),
 ∃ (μ : List Chg × Int × Unit → Nat),
 Z ([], (0 : Int), ()) ∧
 ∀ (a : List Chg) (a_1 : Int),
 Z (a, a_1, ()) →
 (decide (a_1 < (↑(List.length x.fst) : Int)) = true →
 ((0 : Int) ≤ a_1 ∧ a_1 < (↑(List.length x.fst) : Int)) ∧
 (List.length a +
 List.length
 [((List.getD x.fst (Int.toNat a_1) (Ty.dflt t51)).snd.fst,
 (List.getD x.fst (Int.toNat a_1) (Ty.dflt t51)).fst, ())]) *
 (32 : Nat) ≤
 (140737488355328 : Nat) ∧
 List.length a +
 List.length
 [((List.getD x.fst (Int.toNat a_1) (Ty.dflt t51)).snd.fst,
 (List.getD x.fst (Int.toNat a_1) (Ty.dflt t51)).fst, ())] ≤
 maxLen ∧
 ((IntKind.wrap IntKind.i64 (a_1 + (1 : Int)) = IntKind.wrap IntKind.i64 (a_1 + (1 : Int)) ∧
 True ∧
 Value.func (Fn.func (33 : Nat)) #[] #[] = Value.func (Fn.func (33 : Nat)) #[] #[] ∧
 x.fst = x.fst ∧
 (↑(List.length x.fst) : Int) = (↑(List.length x.fst) : Int) ∧
 Value.slice none (0 : Nat) (0 : Nat) = Value.slice none (0 : Nat) (0 : Nat)) ∧
 a ++
 [((List.getD x.fst (Int.toNat a_1) (Ty.dflt t51)).snd.fst,
 (List.getD x.fst (Int.toNat a_1) (Ty.dflt t51)).fst, ())] =
 a ++
 [((List.getD x.fst (Int.toNat a_1) (Ty.dflt t51)).snd.fst,
 (List.getD x.fst (Int.toNat a_1) (Ty.dflt t51)).fst, ())] ∧
 True) ∧
 Z
 (a ++
 [((List.getD x.fst (Int.toNat a_1) (Ty.dflt t51)).snd.fst,
 (List.getD x.fst (Int.toNat a_1) (Ty.dflt t51)).fst, ())],
 IntKind.wrap IntKind.i64 (a_1 + (1 : Int)), ()) ∧
 μ
 (a ++
 [((List.getD x.fst (Int.toNat a_1) (Ty.dflt t51)).snd.fst,
 (List.getD x.fst (Int.toNat a_1) (Ty.dflt t51)).fst, ())],
 IntKind.wrap IntKind.i64 (a_1 + (1 : Int)), ()) <
 μ (a, a_1, ())) ∧
 (decide (a_1 < (↑(List.length x.fst) : Int)) = false → a = invert x.fst)
theorem vcEq21 : fnVC E21 Try.f21 (bodyOf Try.f21) cInvert = vc21 := by kernel_rfl
/- fn 22 -/
def hs22 : List (Nat × Nat × Hint) := []
def nm22 : List Nat := [1000000005, 3000000023]
noncomputable def E22 : Env := env tab [] [] noGl hs22 nm22
def vc22 : Prop :=
 ∀ (x : List Anc × Unit),
 List.length x.fst ≤ (10000 : Nat) →
 ∀ (c : Bool),
 (c = true → List.length x.fst = (0 : Nat)) →
 (c = true → [] = x.fst) ∧
 (c = false →
 ((0 : Nat) + List.length x.fst) * (24 : Nat) ≤ (140737488355328 : Nat) ∧
 (0 : Nat) + List.length x.fst ≤ maxLen ∧ [] ++ x.fst = x.fst)
theorem vcEq22 : fnVC E22 Try.f22 (bodyOf Try.f22) cClone = vc22 := by kernel_rfl
/- fn 24 -/
def hs24 : List (Nat × Nat × Hint) := []
def nm24 : List Nat := [3000000023]
noncomputable def E24 : Env := env tab [(37, cCmp), (36, cOr)] [] noGl hs24 nm24
def vc24 : Prop :=
 ∀ (x : Anc × Anc × Unit),
 True →
 True ∧
 True ∧
 List.length [cmpI x.fst.snd.fst x.snd.fst.snd.fst, cmpI x.fst.fst x.snd.fst.fst] ≤ maxLen ∧
 firstNZ [cmpI x.fst.snd.fst x.snd.fst.snd.fst, cmpI x.fst.fst x.snd.fst.fst] = cmpA x.fst x.snd.fst
theorem vcEq24 : fnVC E24 Try.f24 (bodyOf Try.f24) cOrder = vc24 := by kernel_rfl
/- fn 27 -/
def hs27 : List (Nat × Nat × Hint) := [(0, 3, ⟨[.slot 9 t3, .cell 3 0 t3, .cell 3 1 t3, .cell 3 2 t3, .cell 3 3 t3], [3, 7, 8], [3], []⟩)]
def nm27 : List Nat := [3000000023]
noncomputable def E27 : Env := env tab [(39, cWithin), (40, cSize)] [] noGl hs27 nm27
def vc27 : Prop :=
 ∀ (x : List Chg × Unit),
 List.length x.fst ≤ maxLen →
 (((0 : Int) = (0 : Int) ∧ True ∧ x.fst = x.fst ∧ (↑(List.length x.fst) : Int) = (↑(List.length x.fst) : Int)) ∧
 (0 : Int) = (0 : Int) ∧ (0 : Int) = (0 : Int) ∧ (0 : Int) = (0 : Int) ∧ (0 : Int) = (0 : Int)) ∧
 ∃ (Z : Int × Int × Int × Int × Int × Unit → Prop),
 ∃ (μ : Int × Int × Int × Int × Int × Unit → Nat),
 Z ((0 : Int), (0 : Int), (0 : Int), (0 : Int), (0 : Int), ()) ∧
 ∀ (a a_1 a_2 a_3 a_4 : Int),
 Z (a, a_1, a_2, a_3, a_4, ()) →
 (decide (a < (↑(List.length x.fst) : Int)) = true →
 ((0 : Int) ≤ a ∧ a < (↑(List.length x.fst) : Int)) ∧
 True ∧
 ((!within (List.getD x.fst (Int.toNat a) (Ty.dflt t51)).fst) = true → false = normal x.fst) ∧
 ((!within (List.getD x.fst (Int.toNat a) (Ty.dflt t51)).fst) = false →
 True ∧
 ((!within (List.getD x.fst (Int.toNat a) (Ty.dflt t51)).snd.fst) = true →
 false = normal x.fst) ∧
 ((!within (List.getD x.fst (Int.toNat a) (Ty.dflt t51)).snd.fst) = false →
 True ∧
 True ∧
 ((IntKind.wrap IntKind.i64
 (size (List.getD x.fst (Int.toNat a) (Ty.dflt t51)).fst +
 size (List.getD x.fst (Int.toNat a) (Ty.dflt t51)).snd.fst) ==
 (0 : Int)) =
 true →
 false = normal x.fst) ∧
 ((IntKind.wrap IntKind.i64
 (size (List.getD x.fst (Int.toNat a) (Ty.dflt t51)).fst +
 size (List.getD x.fst (Int.toNat a) (Ty.dflt t51)).snd.fst) ==
 (0 : Int)) =
 false →
 ((IntKind.wrap IntKind.i64
 ((List.getD x.fst (Int.toNat a) (Ty.dflt t51)).fst.fst - a_2) !=
 IntKind.wrap IntKind.i64
 ((List.getD x.fst (Int.toNat a) (Ty.dflt t51)).snd.fst.fst - a_4)) =
 true →
 false = normal x.fst) ∧
 ((IntKind.wrap IntKind.i64
 ((List.getD x.fst (Int.toNat a) (Ty.dflt t51)).fst.fst - a_2) !=
 IntKind.wrap IntKind.i64
 ((List.getD x.fst (Int.toNat a) (Ty.dflt t51)).snd.fst.fst - a_4)) =
 false →
 (decide
 (IntKind.wrap IntKind.i64
 ((List.getD x.fst (Int.toNat a) (Ty.dflt t51)).fst.fst -
 a_2) <
 (0 : Int)) =
 true →
 false = normal x.fst) ∧
 (decide
 (IntKind.wrap IntKind.i64
 ((List.getD x.fst (Int.toNat a) (Ty.dflt t51)).fst.fst -
 a_2) <
 (0 : Int)) =
 false →
 ((IntKind.wrap IntKind.i64
 ((List.getD x.fst (Int.toNat a) (Ty.dflt t51)).fst.fst -
 a_2) ==
 (0 : Int)) =
 true →
 (decide (a > (0 : Int)) = true → false = normal x.fst) ∧
 (decide (a > (0 : Int)) = false →
 ((IntKind.wrap IntKind.i64 (a + (1 : Int)) =
 IntKind.wrap IntKind.i64 (a + (1 : Int)) ∧
 True ∧
 x.fst = x.fst ∧
 (↑(List.length x.fst) : Int) =
 (↑(List.length x.fst) : Int)) ∧
 (List.getD x.fst (Int.toNat a) (Ty.dflt t51)).fst.fst =
 (List.getD x.fst (Int.toNat a)
 (Ty.dflt t51)).fst.fst ∧
 (List.getD x.fst (Int.toNat a)
 (Ty.dflt t51)).fst.snd.fst =
 (List.getD x.fst (Int.toNat a)
 (Ty.dflt t51)).fst.snd.fst ∧
 (List.getD x.fst (Int.toNat a)
 (Ty.dflt t51)).snd.fst.fst =
 (List.getD x.fst (Int.toNat a)
 (Ty.dflt t51)).snd.fst.fst ∧
 (List.getD x.fst (Int.toNat a)
 (Ty.dflt t51)).snd.fst.snd.fst =
 (List.getD x.fst (Int.toNat a)
 (Ty.dflt t51)).snd.fst.snd.fst) ∧
 Z
 (IntKind.wrap IntKind.i64 (a + (1 : Int)),
 (List.getD x.fst (Int.toNat a) (Ty.dflt t51)).fst.fst,
 (List.getD x.fst (Int.toNat a)
 (Ty.dflt t51)).fst.snd.fst,
 (List.getD x.fst (Int.toNat a)
 (Ty.dflt t51)).snd.fst) ∧
 μ
 (IntKind.wrap IntKind.i64 (a + (1 : Int)),
 (List.getD x.fst (Int.toNat a)
 (Ty.dflt t51)).fst.fst,
 (List.getD x.fst (Int.toNat a)
 (Ty.dflt t51)).fst.snd.fst,
 (List.getD x.fst (Int.toNat a)
 (Ty.dflt t51)).snd.fst) <
 μ (a, a_1, a_2, a_3, a_4, ()))) ∧
 ((IntKind.wrap IntKind.i64
 ((List.getD x.fst (Int.toNat a) (Ty.dflt t51)).fst.fst -
 a_2) ==
 (0 : Int)) =
 false →
 ((IntKind.wrap IntKind.i64 (a + (1 : Int)) =
 IntKind.wrap IntKind.i64 (a + (1 : Int)) ∧
 True ∧
 x.fst = x.fst ∧
 (↑(List.length x.fst) : Int) =
 (↑(List.length x.fst) : Int)) ∧
 (List.getD x.fst (Int.toNat a) (Ty.dflt t51)).fst.fst =
 (List.getD x.fst (Int.toNat a) (Ty.dflt t51)).fst.fst ∧
 (List.getD x.fst (Int.toNat a) (Ty.dflt t51)).fst.snd.fst =
 (List.getD x.fst (Int.toNat a)
 (Ty.dflt t51)).fst.snd.fst ∧
 (List.getD x.fst (Int.toNat a)
 (Ty.dflt t51)).snd.fst.fst =
 (List.getD x.fst (Int.toNat a)
 (Ty.dflt t51)).snd.fst.fst ∧
 (List.getD x.fst (Int.toNat a)
 (Ty.dflt t51)).snd.fst.snd.fst =
 (List.getD x.fst (Int.toNat a)
 (Ty.dflt t51)).snd.fst.snd.fst) ∧
 Z
 (IntKind.wrap IntKind.i64 (a + (1 : Int)),
 (List.getD x.fst (Int.toNat a) (Ty.dflt t51)).fst.fst,
 (List.getD x.fst (Int.toNat a) (Ty.dflt t51)).fst.snd.fst,
 (List.getD x.fst (Int.toNat a) (Ty.dflt t51)).snd.fst) ∧
 μ
 (IntKind.wrap IntKind.i64 (a + (1 : Int)),
 (List.getD x.fst (Int.toNat a) (Ty.dflt t51)).fst.fst,
 (List.getD x.fst (Int.toNat a)
 (Ty.dflt t51)).fst.snd.fst,
 (List.getD x.fst (Int.toNat a) (Ty.dflt t51)).snd.fst) <
 μ (a, a_1, a_2, a_3, a_4, ())))))))) ∧
 (decide (a < (↑(List.length x.fst) : Int)) = false → true = normal x.fst)
theorem vcEq27 : fnVC E27 Try.f27 (bodyOf Try.f27) cNormal = vc27 := by kernel_rfl
/- fn 28 -/
def hs28 : List (Nat × Nat × Hint) := [(0, 3, ⟨[.slot 3 t3, .slot 8 t3], [6, 7], [], []⟩)]
def nm28 : List Nat := [3000000023]
noncomputable def E28 : Env := env tab [(40, cSize)] [] noGl hs28 nm28
def vc28 : Prop :=
 ∀ (x : List Chg × Unit),
 List.length x.fst ≤ maxLen →
 ((0 : Int) = (0 : Int) ∧
 (0 : Int) = (0 : Int) ∧ x.fst = x.fst ∧ (↑(List.length x.fst) : Int) = (↑(List.length x.fst) : Int)) ∧
 ∃ (Z : Int × Int × Unit → Prop),
 ∃ (μ : Int × Int × Unit → Nat),
 Z ((0 : Int), (0 : Int), ()) ∧
 ∀ (a a_1 : Int),
 Z (a, a_1, ()) →
 (decide (a_1 < (↑(List.length x.fst) : Int)) = true →
 ((0 : Int) ≤ a_1 ∧ a_1 < (↑(List.length x.fst) : Int)) ∧
 True ∧
 True ∧
 (IntKind.wrap IntKind.i64 (a_1 + (1 : Int)) = IntKind.wrap IntKind.i64 (a_1 + (1 : Int)) ∧
 IntKind.wrap IntKind.i64
 (a +
 IntKind.wrap IntKind.i64
 (size (List.getD x.fst (Int.toNat a_1) (Ty.dflt t51)).snd.fst -
 size (List.getD x.fst (Int.toNat a_1) (Ty.dflt t51)).fst)) =
 IntKind.wrap IntKind.i64
 (a +
 IntKind.wrap IntKind.i64
 (size (List.getD x.fst (Int.toNat a_1) (Ty.dflt t51)).snd.fst -
 size (List.getD x.fst (Int.toNat a_1) (Ty.dflt t51)).fst)) ∧
 x.fst = x.fst ∧ (↑(List.length x.fst) : Int) = (↑(List.length x.fst) : Int)) ∧
 Z
 (IntKind.wrap IntKind.i64
 (a +
 IntKind.wrap IntKind.i64
 (size (List.getD x.fst (Int.toNat a_1) (Ty.dflt t51)).snd.fst -
 size (List.getD x.fst (Int.toNat a_1) (Ty.dflt t51)).fst)),
 IntKind.wrap IntKind.i64 (a_1 + (1 : Int)), ()) ∧
 μ
 (IntKind.wrap IntKind.i64
 (a +
 IntKind.wrap IntKind.i64
 (size (List.getD x.fst (Int.toNat a_1) (Ty.dflt t51)).snd.fst -
 size (List.getD x.fst (Int.toNat a_1) (Ty.dflt t51)).fst)),
 IntKind.wrap IntKind.i64 (a_1 + (1 : Int)), ()) <
 μ (a, a_1, ())) ∧
 (decide (a_1 < (↑(List.length x.fst) : Int)) = false → a = delta x.fst)
theorem vcEq28 : fnVC E28 Try.f28 (bodyOf Try.f28) cDelta = vc28 := by kernel_rfl
/- fn 29 -/
def hs29 : List (Nat × Nat × Hint) := [(0, 7, ⟨[.slot 8 t3, .slot 32 t3], [1, 2, 30, 31], [], []⟩)]
def nm29 : List Nat := [3000000023]
noncomputable def E29 : Env := env tab [(27, cNormal)] [] noGl hs29 nm29
def vc29 : Prop :=
 ∀ (x : List Chg × Int × Int × Unit),
 List.length x.fst ≤ maxLen →
 List.length x.fst ≤ maxLen ∧
 ((!normal x.fst) = true → ((0 : Int), (4 : Int), ()) = mapP x.fst x.snd.fst x.snd.snd.fst) ∧
 ((!normal x.fst) = false →
 (decide (x.snd.fst < (0 : Int)) = true → ((0 : Int), (1 : Int), ()) = mapP x.fst x.snd.fst x.snd.snd.fst) ∧
 (decide (x.snd.fst < (0 : Int)) = false →
 (decide (x.snd.fst > (1099511627776 : Int)) = true →
 ((0 : Int), (1 : Int), ()) = mapP x.fst x.snd.fst x.snd.snd.fst) ∧
 (decide (x.snd.fst > (1099511627776 : Int)) = false →
 ((x.snd.snd.fst != (0 : Int)) = true →
 ((x.snd.snd.fst != (1 : Int)) = true →
 ((0 : Int), (1 : Int), ()) = mapP x.fst x.snd.fst x.snd.snd.fst) ∧
 ((x.snd.snd.fst != (1 : Int)) = false →
 ((0 : Int) = (0 : Int) ∧
 (0 : Int) = (0 : Int) ∧
 x.snd.fst = x.snd.fst ∧
 x.snd.snd.fst = x.snd.snd.fst ∧
 x.fst = x.fst ∧ (↑(List.length x.fst) : Int) = (↑(List.length x.fst) : Int)) ∧
 ∃ (Z : Int × Int × Unit → Prop),
 ∃ (μ : Int × Int × Unit → Nat),
 Z ((0 : Int), (0 : Int), ()) ∧
 ∀ (a a_1 : Int),
 Z (a, a_1, ()) →
 (decide (a_1 < (↑(List.length x.fst) : Int)) = true →
 ((0 : Int) ≤ a_1 ∧ a_1 < (↑(List.length x.fst) : Int)) ∧
 (decide
 (x.snd.fst <
 (List.getD x.fst (Int.toNat a_1) (Ty.dflt t51)).fst.fst) =
 true →
 (IntKind.wrap IntKind.i64 (x.snd.fst + a), (0 : Int), ()) =
 mapP x.fst x.snd.fst x.snd.snd.fst) ∧
 (decide
 (x.snd.fst <
 (List.getD x.fst (Int.toNat a_1) (Ty.dflt t51)).fst.fst) =
 false →
 (decide
 (x.snd.fst ≤
 (List.getD x.fst (Int.toNat a_1) (Ty.dflt t51)).fst.snd.fst) =
 true →
 ((x.snd.snd.fst == (0 : Int)) = true →
 ((List.getD x.fst (Int.toNat a_1) (Ty.dflt t51)).snd.fst.fst,
 (0 : Int), ()) =
 mapP x.fst x.snd.fst x.snd.snd.fst) ∧
 ((x.snd.snd.fst == (0 : Int)) = false →
 (decide
 (x.snd.fst ≤
 (List.getD x.fst (Int.toNat a_1)
 (Ty.dflt t51)).fst.snd.fst) =
 true →
 ((List.getD x.fst (Int.toNat a_1)
 (Ty.dflt t51)).snd.fst.snd.fst,
 (0 : Int), ()) =
 mapP x.fst x.snd.fst x.snd.snd.fst) ∧
 (decide
 (x.snd.fst ≤
 (List.getD x.fst (Int.toNat a_1)
 (Ty.dflt t51)).fst.snd.fst) =
 false →
 (IntKind.wrap IntKind.i64 (a_1 + (1 : Int)) =
 IntKind.wrap IntKind.i64 (a_1 + (1 : Int)) ∧
 IntKind.wrap IntKind.i64
 ((List.getD x.fst (Int.toNat a_1)
 (Ty.dflt t51)).snd.fst.snd.fst -
 (List.getD x.fst (Int.toNat a_1)
 (Ty.dflt t51)).fst.snd.fst) =
 IntKind.wrap IntKind.i64
 ((List.getD x.fst (Int.toNat a_1)
 (Ty.dflt t51)).snd.fst.snd.fst -
 (List.getD x.fst (Int.toNat a_1)
 (Ty.dflt t51)).fst.snd.fst) ∧
 x.snd.fst = x.snd.fst ∧
 x.snd.snd.fst = x.snd.snd.fst ∧
 x.fst = x.fst ∧
 (↑(List.length x.fst) : Int) =
 (↑(List.length x.fst) : Int)) ∧
 Z
 (IntKind.wrap IntKind.i64
 ((List.getD x.fst (Int.toNat a_1)
 (Ty.dflt t51)).snd.fst.snd.fst -
 (List.getD x.fst (Int.toNat a_1)
 (Ty.dflt t51)).fst.snd.fst),
 IntKind.wrap IntKind.i64 (a_1 + (1 : Int)), ()) ∧
 μ
 (IntKind.wrap IntKind.i64
 ((List.getD x.fst (Int.toNat a_1)
 (Ty.dflt t51)).snd.fst.snd.fst -
 (List.getD x.fst (Int.toNat a_1)
 (Ty.dflt t51)).fst.snd.fst),
 IntKind.wrap IntKind.i64 (a_1 + (1 : Int)), ()) <
 μ (a, a_1, ())))) ∧
 (decide
 (x.snd.fst ≤
 (List.getD x.fst (Int.toNat a_1) (Ty.dflt t51)).fst.snd.fst) =
 false →
 (decide
 (x.snd.fst ≤
 (List.getD x.fst (Int.toNat a_1)
 (Ty.dflt t51)).fst.snd.fst) =
 true →
 ((List.getD x.fst (Int.toNat a_1)
 (Ty.dflt t51)).snd.fst.snd.fst,
 (0 : Int), ()) =
 mapP x.fst x.snd.fst x.snd.snd.fst) ∧
 (decide
 (x.snd.fst ≤
 (List.getD x.fst (Int.toNat a_1)
 (Ty.dflt t51)).fst.snd.fst) =
 false →
 (IntKind.wrap IntKind.i64 (a_1 + (1 : Int)) =
 IntKind.wrap IntKind.i64 (a_1 + (1 : Int)) ∧
 IntKind.wrap IntKind.i64
 ((List.getD x.fst (Int.toNat a_1)
 (Ty.dflt t51)).snd.fst.snd.fst -
 (List.getD x.fst (Int.toNat a_1)
 (Ty.dflt t51)).fst.snd.fst) =
 IntKind.wrap IntKind.i64
 ((List.getD x.fst (Int.toNat a_1)
 (Ty.dflt t51)).snd.fst.snd.fst -
 (List.getD x.fst (Int.toNat a_1)
 (Ty.dflt t51)).fst.snd.fst) ∧
 x.snd.fst = x.snd.fst ∧
 x.snd.snd.fst = x.snd.snd.fst ∧
 x.fst = x.fst ∧
 (↑(List.length x.fst) : Int) =
 (↑(List.length x.fst) : Int)) ∧
 Z
 (IntKind.wrap IntKind.i64
 ((List.getD x.fst (Int.toNat a_1)
 (Ty.dflt t51)).snd.fst.snd.fst -
 (List.getD x.fst (Int.toNat a_1)
 (Ty.dflt t51)).fst.snd.fst),
 IntKind.wrap IntKind.i64 (a_1 + (1 : Int)), ()) ∧
 μ
 (IntKind.wrap IntKind.i64
 ((List.getD x.fst (Int.toNat a_1)
 (Ty.dflt t51)).snd.fst.snd.fst -
 (List.getD x.fst (Int.toNat a_1)
 (Ty.dflt t51)).fst.snd.fst),
 IntKind.wrap IntKind.i64 (a_1 + (1 : Int)), ()) <
 μ (a, a_1, ()))))) ∧
 (decide (a_1 < (↑(List.length x.fst) : Int)) = false →
 (IntKind.wrap IntKind.i64 (x.snd.fst + a), (0 : Int), ()) =
 mapP x.fst x.snd.fst x.snd.snd.fst))) ∧
 ((x.snd.snd.fst != (0 : Int)) = false →
 ((0 : Int) = (0 : Int) ∧
 (0 : Int) = (0 : Int) ∧
 x.snd.fst = x.snd.fst ∧
 x.snd.snd.fst = x.snd.snd.fst ∧
 x.fst = x.fst ∧ (↑(List.length x.fst) : Int) = (↑(List.length x.fst) : Int)) ∧
 ∃ (Z : Int × Int × Unit → Prop),
 ∃ (μ : Int × Int × Unit → Nat),
 Z ((0 : Int), (0 : Int), ()) ∧
 ∀ (a a_1 : Int),
 Z (a, a_1, ()) →
 (decide (a_1 < (↑(List.length x.fst) : Int)) = true →
 ((0 : Int) ≤ a_1 ∧ a_1 < (↑(List.length x.fst) : Int)) ∧
 (decide (x.snd.fst < (List.getD x.fst (Int.toNat a_1) (Ty.dflt t51)).fst.fst) =
 true →
 (IntKind.wrap IntKind.i64 (x.snd.fst + a), (0 : Int), ()) =
 mapP x.fst x.snd.fst x.snd.snd.fst) ∧
 (decide
 (x.snd.fst < (List.getD x.fst (Int.toNat a_1) (Ty.dflt t51)).fst.fst) =
 false →
 (decide
 (x.snd.fst ≤
 (List.getD x.fst (Int.toNat a_1) (Ty.dflt t51)).fst.snd.fst) =
 true →
 ((x.snd.snd.fst == (0 : Int)) = true →
 ((List.getD x.fst (Int.toNat a_1) (Ty.dflt t51)).snd.fst.fst,
 (0 : Int), ()) =
 mapP x.fst x.snd.fst x.snd.snd.fst) ∧
 ((x.snd.snd.fst == (0 : Int)) = false →
 (decide
 (x.snd.fst ≤
 (List.getD x.fst (Int.toNat a_1)
 (Ty.dflt t51)).fst.snd.fst) =
 true →
 ((List.getD x.fst (Int.toNat a_1)
 (Ty.dflt t51)).snd.fst.snd.fst,
 (0 : Int), ()) =
 mapP x.fst x.snd.fst x.snd.snd.fst) ∧
 (decide
 (x.snd.fst ≤
 (List.getD x.fst (Int.toNat a_1)
 (Ty.dflt t51)).fst.snd.fst) =
 false →
 (IntKind.wrap IntKind.i64 (a_1 + (1 : Int)) =
 IntKind.wrap IntKind.i64 (a_1 + (1 : Int)) ∧
 IntKind.wrap IntKind.i64
 ((List.getD x.fst (Int.toNat a_1)
 (Ty.dflt t51)).snd.fst.snd.fst -
 (List.getD x.fst (Int.toNat a_1)
 (Ty.dflt t51)).fst.snd.fst) =
 IntKind.wrap IntKind.i64
 ((List.getD x.fst (Int.toNat a_1)
 (Ty.dflt t51)).snd.fst.snd.fst -
 (List.getD x.fst (Int.toNat a_1)
 (Ty.dflt t51)).fst.snd.fst) ∧
 x.snd.fst = x.snd.fst ∧
 x.snd.snd.fst = x.snd.snd.fst ∧
 x.fst = x.fst ∧
 (↑(List.length x.fst) : Int) =
 (↑(List.length x.fst) : Int)) ∧
 Z
 (IntKind.wrap IntKind.i64
 ((List.getD x.fst (Int.toNat a_1)
 (Ty.dflt t51)).snd.fst.snd.fst -
 (List.getD x.fst (Int.toNat a_1)
 (Ty.dflt t51)).fst.snd.fst),
 IntKind.wrap IntKind.i64 (a_1 + (1 : Int)), ()) ∧
 μ
 (IntKind.wrap IntKind.i64
 ((List.getD x.fst (Int.toNat a_1)
 (Ty.dflt t51)).snd.fst.snd.fst -
 (List.getD x.fst (Int.toNat a_1)
 (Ty.dflt t51)).fst.snd.fst),
 IntKind.wrap IntKind.i64 (a_1 + (1 : Int)), ()) <
 μ (a, a_1, ())))) ∧
 (decide
 (x.snd.fst ≤
 (List.getD x.fst (Int.toNat a_1) (Ty.dflt t51)).fst.snd.fst) =
 false →
 (decide
 (x.snd.fst ≤
 (List.getD x.fst (Int.toNat a_1) (Ty.dflt t51)).fst.snd.fst) =
 true →
 ((List.getD x.fst (Int.toNat a_1) (Ty.dflt t51)).snd.fst.snd.fst,
 (0 : Int), ()) =
 mapP x.fst x.snd.fst x.snd.snd.fst) ∧
 (decide
 (x.snd.fst ≤
 (List.getD x.fst (Int.toNat a_1) (Ty.dflt t51)).fst.snd.fst) =
 false →
 (IntKind.wrap IntKind.i64 (a_1 + (1 : Int)) =
 IntKind.wrap IntKind.i64 (a_1 + (1 : Int)) ∧
 IntKind.wrap IntKind.i64
 ((List.getD x.fst (Int.toNat a_1)
 (Ty.dflt t51)).snd.fst.snd.fst -
 (List.getD x.fst (Int.toNat a_1)
 (Ty.dflt t51)).fst.snd.fst) =
 IntKind.wrap IntKind.i64
 ((List.getD x.fst (Int.toNat a_1)
 (Ty.dflt t51)).snd.fst.snd.fst -
 (List.getD x.fst (Int.toNat a_1)
 (Ty.dflt t51)).fst.snd.fst) ∧
 x.snd.fst = x.snd.fst ∧
 x.snd.snd.fst = x.snd.snd.fst ∧
 x.fst = x.fst ∧
 (↑(List.length x.fst) : Int) =
 (↑(List.length x.fst) : Int)) ∧
 Z
 (IntKind.wrap IntKind.i64
 ((List.getD x.fst (Int.toNat a_1)
 (Ty.dflt t51)).snd.fst.snd.fst -
 (List.getD x.fst (Int.toNat a_1)
 (Ty.dflt t51)).fst.snd.fst),
 IntKind.wrap IntKind.i64 (a_1 + (1 : Int)), ()) ∧
 μ
 (IntKind.wrap IntKind.i64
 ((List.getD x.fst (Int.toNat a_1)
 (Ty.dflt t51)).snd.fst.snd.fst -
 (List.getD x.fst (Int.toNat a_1)
 (Ty.dflt t51)).fst.snd.fst),
 IntKind.wrap IntKind.i64 (a_1 + (1 : Int)), ()) <
 μ (a, a_1, ()))))) ∧
 (decide (a_1 < (↑(List.length x.fst) : Int)) = false →
 (IntKind.wrap IntKind.i64 (x.snd.fst + a), (0 : Int), ()) =
 mapP x.fst x.snd.fst x.snd.snd.fst)))))
theorem vcEq29 : fnVC E29 Try.f29 (bodyOf Try.f29) cMap = vc29 := by kernel_rfl
/- fn 30 -/
def hs30 : List (Nat × Nat × Hint) := []
def nm30 : List Nat := [3000000023]
noncomputable def E30 : Env := env tab [] [] noGl hs30 nm30
def vc30 : Prop :=
 ∀ (x : (Int × Int × Unit) × Unit),
 True →
 (decide (x.fst.fst ≥ (0 : Int)) = true →
 (decide (x.fst.fst ≤ x.fst.snd.fst) = true → decide (x.fst.snd.fst ≤ (1099511627776 : Int)) = within x.fst) ∧
 (decide (x.fst.fst ≤ x.fst.snd.fst) = false → false = within x.fst)) ∧
 (decide (x.fst.fst ≥ (0 : Int)) = false → false = within x.fst)
theorem vcEq30 : fnVC E30 Try.f30 (bodyOf Try.f30) cWithin = vc30 := by kernel_rfl
/- fn 31 -/
def hs31 : List (Nat × Nat × Hint) := [(0, 3, ⟨[.slot 7 t3, .slot 12 t3], [1, 2, 10, 11], [], []⟩)]
def nm31 : List Nat := [3000000023]
noncomputable def E31 : Env := env tab [] [] noGl hs31 nm31
def vc31 : Prop :=
 ∀ (x : List Chg × Int × Int × Unit),
 List.length x.fst ≤ maxLen ∧ normal x.fst = true ∧ (0 : Int) ≤ x.snd.fst ∧ x.snd.fst ≤ (1099511627776 : Int) →
 ((0 : Int) = (0 : Int) ∧
 (0 : Int) = (0 : Int) ∧
 x.snd.fst = x.snd.fst ∧
 x.snd.snd.fst = x.snd.snd.fst ∧
 x.fst = x.fst ∧ (↑(List.length x.fst) : Int) = (↑(List.length x.fst) : Int)) ∧
 ∃ (Z : Int × Int × Unit → Prop),
 ∃ (μ : Int × Int × Unit → Nat),
 Z ((0 : Int), (0 : Int), ()) ∧
 ∀ (a a_1 : Int),
 Z (a, a_1, ()) →
 (decide (a_1 < (↑(List.length x.fst) : Int)) = true →
 ((0 : Int) ≤ a_1 ∧ a_1 < (↑(List.length x.fst) : Int)) ∧
 (decide (x.snd.fst ≥ (List.getD x.fst (Int.toNat a_1) (Ty.dflt t70)).fst.fst) = true →
 (decide (x.snd.fst ≤ (List.getD x.fst (Int.toNat a_1) (Ty.dflt t70)).fst.snd.fst) = true →
 ((x.snd.snd.fst == (0 : Int)) = true →
 (List.getD x.fst (Int.toNat a_1) (Ty.dflt t70)).snd.fst.fst =
 refMap x.snd.fst x.snd.snd.fst x.fst (0 : Int)) ∧
 ((x.snd.snd.fst == (0 : Int)) = false →
 (List.getD x.fst (Int.toNat a_1) (Ty.dflt t70)).snd.fst.snd.fst =
 refMap x.snd.fst x.snd.snd.fst x.fst (0 : Int))) ∧
 (decide (x.snd.fst ≤ (List.getD x.fst (Int.toNat a_1) (Ty.dflt t70)).fst.snd.fst) = false →
 (decide (x.snd.fst > (List.getD x.fst (Int.toNat a_1) (Ty.dflt t70)).fst.snd.fst) = true →
 (IntKind.wrap IntKind.i64 (a_1 + (1 : Int)) =
 IntKind.wrap IntKind.i64 (a_1 + (1 : Int)) ∧
 IntKind.wrap IntKind.i64
 ((List.getD x.fst (Int.toNat a_1) (Ty.dflt t70)).snd.fst.snd.fst -
 (List.getD x.fst (Int.toNat a_1) (Ty.dflt t70)).fst.snd.fst) =
 IntKind.wrap IntKind.i64
 ((List.getD x.fst (Int.toNat a_1) (Ty.dflt t70)).snd.fst.snd.fst -
 (List.getD x.fst (Int.toNat a_1) (Ty.dflt t70)).fst.snd.fst) ∧
 x.snd.fst = x.snd.fst ∧
 x.snd.snd.fst = x.snd.snd.fst ∧
 x.fst = x.fst ∧
 (↑(List.length x.fst) : Int) = (↑(List.length x.fst) : Int)) ∧
 Z
 (IntKind.wrap IntKind.i64
 ((List.getD x.fst (Int.toNat a_1) (Ty.dflt t70)).snd.fst.snd.fst -
 (List.getD x.fst (Int.toNat a_1) (Ty.dflt t70)).fst.snd.fst),
 IntKind.wrap IntKind.i64 (a_1 + (1 : Int)), ()) ∧
 μ
 (IntKind.wrap IntKind.i64
 ((List.getD x.fst (Int.toNat a_1) (Ty.dflt t70)).snd.fst.snd.fst -
 (List.getD x.fst (Int.toNat a_1) (Ty.dflt t70)).fst.snd.fst),
 IntKind.wrap IntKind.i64 (a_1 + (1 : Int)), ()) <
 μ (a, a_1, ())) ∧
 (decide (x.snd.fst > (List.getD x.fst (Int.toNat a_1) (Ty.dflt t70)).fst.snd.fst) =
 false →
 (IntKind.wrap IntKind.i64 (a_1 + (1 : Int)) =
 IntKind.wrap IntKind.i64 (a_1 + (1 : Int)) ∧
 a = a ∧
 x.snd.fst = x.snd.fst ∧
 x.snd.snd.fst = x.snd.snd.fst ∧
 x.fst = x.fst ∧
 (↑(List.length x.fst) : Int) = (↑(List.length x.fst) : Int)) ∧
 Z (a, IntKind.wrap IntKind.i64 (a_1 + (1 : Int)), ()) ∧
 μ (a, IntKind.wrap IntKind.i64 (a_1 + (1 : Int)), ()) < μ (a, a_1, ())))) ∧
 (decide (x.snd.fst ≥ (List.getD x.fst (Int.toNat a_1) (Ty.dflt t70)).fst.fst) = false →
 (decide (x.snd.fst > (List.getD x.fst (Int.toNat a_1) (Ty.dflt t70)).fst.snd.fst) = true →
 (IntKind.wrap IntKind.i64 (a_1 + (1 : Int)) = IntKind.wrap IntKind.i64 (a_1 + (1 : Int)) ∧
 IntKind.wrap IntKind.i64
 ((List.getD x.fst (Int.toNat a_1) (Ty.dflt t70)).snd.fst.snd.fst -
 (List.getD x.fst (Int.toNat a_1) (Ty.dflt t70)).fst.snd.fst) =
 IntKind.wrap IntKind.i64
 ((List.getD x.fst (Int.toNat a_1) (Ty.dflt t70)).snd.fst.snd.fst -
 (List.getD x.fst (Int.toNat a_1) (Ty.dflt t70)).fst.snd.fst) ∧
 x.snd.fst = x.snd.fst ∧
 x.snd.snd.fst = x.snd.snd.fst ∧
 x.fst = x.fst ∧ (↑(List.length x.fst) : Int) = (↑(List.length x.fst) : Int)) ∧
 Z
 (IntKind.wrap IntKind.i64
 ((List.getD x.fst (Int.toNat a_1) (Ty.dflt t70)).snd.fst.snd.fst -
 (List.getD x.fst (Int.toNat a_1) (Ty.dflt t70)).fst.snd.fst),
 IntKind.wrap IntKind.i64 (a_1 + (1 : Int)), ()) ∧
 μ
 (IntKind.wrap IntKind.i64
 ((List.getD x.fst (Int.toNat a_1) (Ty.dflt t70)).snd.fst.snd.fst -
 (List.getD x.fst (Int.toNat a_1) (Ty.dflt t70)).fst.snd.fst),
 IntKind.wrap IntKind.i64 (a_1 + (1 : Int)), ()) <
 μ (a, a_1, ())) ∧
 (decide (x.snd.fst > (List.getD x.fst (Int.toNat a_1) (Ty.dflt t70)).fst.snd.fst) = false →
 (IntKind.wrap IntKind.i64 (a_1 + (1 : Int)) = IntKind.wrap IntKind.i64 (a_1 + (1 : Int)) ∧
 a = a ∧
 x.snd.fst = x.snd.fst ∧
 x.snd.snd.fst = x.snd.snd.fst ∧
 x.fst = x.fst ∧ (↑(List.length x.fst) : Int) = (↑(List.length x.fst) : Int)) ∧
 Z (a, IntKind.wrap IntKind.i64 (a_1 + (1 : Int)), ()) ∧
 μ (a, IntKind.wrap IntKind.i64 (a_1 + (1 : Int)), ()) < μ (a, a_1, ())))) ∧
 (decide (a_1 < (↑(List.length x.fst) : Int)) = false →
 IntKind.wrap IntKind.i64 (x.snd.fst + a) = refMap x.snd.fst x.snd.snd.fst x.fst (0 : Int))
theorem vcEq31 : fnVC E31 Try.f31 (bodyOf Try.f31) cRefMap = vc31 := by kernel_rfl
/- fn 36 -/
def hs36 : List (Nat × Nat × Hint) := [(0, 3, ⟨[.slot 8 t3], [3, 6, 7], [], []⟩)]
def nm36 : List Nat := [3000000023]
noncomputable def E36 : Env := env tab [] [] noGl hs36 nm36
def vc36 : Prop :=
 ∀ (x : List Int × Unit),
 List.length x.fst ≤ maxLen →
 ((0 : Int) = (0 : Int) ∧
 (0 : Int) = (0 : Int) ∧ x.fst = x.fst ∧ (↑(List.length x.fst) : Int) = (↑(List.length x.fst) : Int)) ∧
 ∃ (Z : Int × Unit → Prop),
 ∃ (μ : Int × Unit → Nat),
 Z ((0 : Int), ()) ∧
 ∀ (a : Int),
 Z (a, ()) →
 (decide (a < (↑(List.length x.fst) : Int)) = true →
 ((0 : Int) ≤ a ∧ a < (↑(List.length x.fst) : Int)) ∧
 ((List.getD x.fst (Int.toNat a) (Ty.dflt t3) != (0 : Int)) = true →
 List.getD x.fst (Int.toNat a) (Ty.dflt t3) = firstNZ x.fst) ∧
 ((List.getD x.fst (Int.toNat a) (Ty.dflt t3) != (0 : Int)) = false →
 (IntKind.wrap IntKind.i64 (a + (1 : Int)) = IntKind.wrap IntKind.i64 (a + (1 : Int)) ∧
 (0 : Int) = (0 : Int) ∧
 x.fst = x.fst ∧ (↑(List.length x.fst) : Int) = (↑(List.length x.fst) : Int)) ∧
 Z (IntKind.wrap IntKind.i64 (a + (1 : Int)), ()) ∧
 μ (IntKind.wrap IntKind.i64 (a + (1 : Int)), ()) < μ (a, ()))) ∧
 (decide (a < (↑(List.length x.fst) : Int)) = false → (0 : Int) = firstNZ x.fst)
theorem vcEq36 : fnVC E36 Try.f36 (bodyOf Try.f36) cOr = vc36 := by kernel_rfl
/- fn 37 -/
def hs37 : List (Nat × Nat × Hint) := []
def nm37 : List Nat := [3000000023]
noncomputable def E37 : Env := env tab [] [(51, Try.f51)] noGl hs37 nm37
def vc37 : Prop :=
 ∀ (x : Int × Int × Unit),
 True →
 ((x.fst != x.fst) = true →
 ((x.snd.fst != x.snd.fst) = true → (0 : Int) = cmpI x.fst x.snd.fst) ∧
 ((x.snd.fst != x.snd.fst) = false → (-1 : Int) = cmpI x.fst x.snd.fst)) ∧
 ((x.fst != x.fst) = false →
 ((x.snd.fst != x.snd.fst) = true → (1 : Int) = cmpI x.fst x.snd.fst) ∧
 ((x.snd.fst != x.snd.fst) = false →
 (decide (x.fst < x.snd.fst) = true → (-1 : Int) = cmpI x.fst x.snd.fst) ∧
 (decide (x.fst < x.snd.fst) = false →
 (decide (x.fst > x.snd.fst) = true → (1 : Int) = cmpI x.fst x.snd.fst) ∧
 (decide (x.fst > x.snd.fst) = false → (0 : Int) = cmpI x.fst x.snd.fst))))
theorem vcEq37 : fnVC E37 Try.f37 (bodyOf Try.f37) cCmp = vc37 := by kernel_rfl
/- fn 39 -/
def hs39 : List (Nat × Nat × Hint) := []
def nm39 : List Nat := [3000000023]
noncomputable def E39 : Env := env tab [] [] noGl hs39 nm39
def vc39 : Prop :=
 ∀ (x : (Int × Int × Unit) × Unit),
 True →
 (decide (x.fst.fst ≥ (0 : Int)) = true →
 (decide (x.fst.snd.fst ≥ x.fst.fst) = true → decide (x.fst.snd.fst ≤ (1099511627776 : Int)) = within x.fst) ∧
 (decide (x.fst.snd.fst ≥ x.fst.fst) = false → false = within x.fst)) ∧
 (decide (x.fst.fst ≥ (0 : Int)) = false → false = within x.fst)
theorem vcEq39 : fnVC E39 Try.f39 (bodyOf Try.f39) cWithin = vc39 := by kernel_rfl
/- fn 40 -/
def hs40 : List (Nat × Nat × Hint) := []
def nm40 : List Nat := [3000000023]
noncomputable def E40 : Env := env tab [] [] noGl hs40 nm40
def vc40 : Prop :=
 ∀ (x : (Int × Int × Unit) × Unit), True → IntKind.wrap IntKind.i64 (x.fst.snd.fst - x.fst.fst) = size x.fst
theorem vcEq40 : fnVC E40 Try.f40 (bodyOf Try.f40) cSize = vc40 := by kernel_rfl
end Go.Fr.C11
