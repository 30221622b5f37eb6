/-
  Conditions to be proved, function by function, printed by a program. Conditions: none.
-/
import Derived.Test.YtbecepgbplafmaaC11A
namespace Go.Fr.C11
open Go Go.Fr Go.Proofs
set_option maxRecDepth 100000

/- fn 3 -/
def hs3 : List (Nat × Nat × Hint) := [(0, 14, ⟨[.rowS 11 900000011 t35 35, .slot 13 t4, .slot 51 t3, .cell 12 0 t3, .cell 12 1 t3, .cell 12 2 t3], [5, 7, 10, 12, 49, 50], [5, 12], []⟩)]
def nm3 : List Nat := [3000000023]
noncomputable def E3 : Env := env tab [(8, cBoth), (9, cNew), (11, cRefs), (10, cWrong), (12, cOrdered), (13, cGet), (15, cAll), (14, cSame), (16, cBetween)] [] noGl hs3 nm3
def vc3 : Prop :=
 ∀ (x : Int × List Anc × Anc × Unit),
 List.length x.snd.fst ≤ maxLen →
 (decide ((↑(List.length x.snd.fst) : Int) > (400 : Int)) = true → True ∧ true = true) ∧
 (decide ((↑(List.length x.snd.fst) : Int) > (400 : Int)) = false →
 List.length x.snd.fst ≤ maxLen ∧
 List.length x.snd.fst ≤ (10000 : Nat) ∧
 List.length x.snd.fst ≤ maxLen ∧
 (((newA x.fst x.snd.fst).snd.fst != wrongA x.fst x.snd.fst) = true → false = true) ∧
 (((newA x.fst x.snd.fst).snd.fst != wrongA x.fst x.snd.fst) = false →
 ((!Ty.beq t4 (Option.isNone (newA x.fst x.snd.fst).fst) (wrongA x.fst x.snd.fst != (0 : Int))) =
 true →
 false = true) ∧
 ((!Ty.beq t4 (Option.isNone (newA x.fst x.snd.fst).fst) (wrongA x.fst x.snd.fst != (0 : Int))) =
 false →
 ((wrongA x.fst x.snd.fst != (0 : Int)) = true → True ∧ true = true) ∧
 ((wrongA x.fst x.snd.fst != (0 : Int)) = false →
 List.length x.snd.fst ≤ (10000 : Nat) ∧
 List.length x.snd.fst ≤ (10000 : Nat) ∧
 (((0 : Int) = (0 : Int) ∧
 false = false ∧
 True ∧
 True ∧
 (newA x.fst x.snd.fst).fst = (newA x.fst x.snd.fst).fst ∧
 insA x.snd.fst = insA x.snd.fst ∧
 True ∧
 insA x.snd.fst = insA x.snd.fst ∧
 (↑(List.length (insA x.snd.fst)) : Int) =
 (↑(List.length (insA x.snd.fst)) : Int)) ∧
 ((x.snd.snd.fst.fst = x.snd.snd.fst.fst ∧
 x.snd.snd.fst.snd.fst = x.snd.snd.fst.snd.fst ∧
 x.snd.snd.fst.snd.snd.fst = x.snd.snd.fst.snd.snd.fst) ∧
 (0 : Int) = (0 : Int) ∧ (0 : Int) = (0 : Int) ∧ (0 : Int) = (0 : Int)) ∧
 True ∧ True) ∧
 ∃ (Z : List Anc × Bool × Int × Int × Int × Int × Unit → Prop),
 ∃ (μ : List Anc × Bool × Int × Int × Int × Int × Unit → Nat),
 Z ([], false, (0 : Int), (0 : Int), (0 : Int), (0 : Int), ()) ∧
 ∀ (a : List Anc) (a_1 : Bool) (a_2 a_3 a_4 a_5 : Int),
 Z (a, a_1, a_2, a_3, a_4, a_5, ()) →
 (decide (a_2 < (↑(List.length (insA x.snd.fst)) : Int)) = true →
 ((0 : Int) ≤ a_2 ∧ a_2 < (↑(List.length (insA x.snd.fst)) : Int)) ∧
 (decide
 ((List.getD (insA x.snd.fst) (Int.toNat a_2)
 (Ty.dflt t35)).snd.fst ≥
 x.snd.snd.fst.fst) =
 true →
 (decide
 ((List.getD (insA x.snd.fst) (Int.toNat a_2)
 (Ty.dflt t35)).snd.fst ≤
 x.snd.snd.fst.snd.fst) =
 true →
 (List.length a +
 List.length
 [List.getD (insA x.snd.fst) (Int.toNat a_2)
 (Ty.dflt t35)]) *
 (24 : Nat) ≤
 (140737488355328 : Nat) ∧
 List.length a +
 List.length
 [List.getD (insA x.snd.fst) (Int.toNat a_2)
 (Ty.dflt t35)] ≤
 maxLen ∧
 (((List.getD (insA x.snd.fst) (Int.toNat a_2)
 (Ty.dflt t35)).fst ==
 x.snd.snd.fst.snd.snd.fst) =
 true →
 ((IntKind.wrap IntKind.i64 (a_2 + (1 : Int)) =
 IntKind.wrap IntKind.i64 (a_2 + (1 : Int)) ∧
 true = true ∧
 True ∧
 True ∧
 (newA x.fst x.snd.fst).fst =
 (newA x.fst x.snd.fst).fst ∧
 insA x.snd.fst = insA x.snd.fst ∧
 True ∧
 insA x.snd.fst = insA x.snd.fst ∧
 (↑(List.length (insA x.snd.fst)) :
 Int) =
 (↑(List.length (insA x.snd.fst)) :
 Int)) ∧
 ((x.snd.snd.fst.fst = x.snd.snd.fst.fst ∧
 x.snd.snd.fst.snd.fst =
 x.snd.snd.fst.snd.fst ∧
 x.snd.snd.fst.snd.snd.fst =
 x.snd.snd.fst.snd.snd.fst) ∧
 (List.getD (insA x.snd.fst) (Int.toNat a_2)
 (Ty.dflt t35)).fst =
 (List.getD (insA x.snd.fst) (Int.toNat a_2)
 (Ty.dflt t35)).fst ∧
 (List.getD (insA x.snd.fst) (Int.toNat a_2)
 (Ty.dflt t35)).snd.fst =
 (List.getD (insA x.snd.fst)
 (Int.toNat a_2)
 (Ty.dflt t35)).snd.fst ∧
 (List.getD (insA x.snd.fst) (Int.toNat a_2)
 (Ty.dflt t35)).snd.snd.fst =
 (List.getD (insA x.snd.fst)
 (Int.toNat a_2)
 (Ty.dflt t35)).snd.snd.fst) ∧
 a ++
 [List.getD (insA x.snd.fst) (Int.toNat a_2)
 (Ty.dflt t35)] =
 a ++
 [List.getD (insA x.snd.fst) (Int.toNat a_2)
 (Ty.dflt t35)] ∧
 True) ∧
 Z
 (a ++
 [List.getD (insA x.snd.fst) (Int.toNat a_2)
 (Ty.dflt t35)],
 true,
 IntKind.wrap IntKind.i64 (a_2 + (1 : Int)),
 List.getD (insA x.snd.fst) (Int.toNat a_2)
 (Ty.dflt t35)) ∧
 μ
 (a ++
 [List.getD (insA x.snd.fst) (Int.toNat a_2)
 (Ty.dflt t35)],
 true,
 IntKind.wrap IntKind.i64 (a_2 + (1 : Int)),
 List.getD (insA x.snd.fst) (Int.toNat a_2)
 (Ty.dflt t35)) <
 μ (a, a_1, a_2, a_3, a_4, a_5, ())) ∧
 (((List.getD (insA x.snd.fst) (Int.toNat a_2)
 (Ty.dflt t35)).fst ==
 x.snd.snd.fst.snd.snd.fst) =
 false →
 ((IntKind.wrap IntKind.i64 (a_2 + (1 : Int)) =
 IntKind.wrap IntKind.i64 (a_2 + (1 : Int)) ∧
 a_1 = a_1 ∧
 True ∧
 True ∧
 (newA x.fst x.snd.fst).fst =
 (newA x.fst x.snd.fst).fst ∧
 insA x.snd.fst = insA x.snd.fst ∧
 True ∧
 insA x.snd.fst = insA x.snd.fst ∧
 (↑(List.length (insA x.snd.fst)) :
 Int) =
 (↑(List.length (insA x.snd.fst)) :
 Int)) ∧
 ((x.snd.snd.fst.fst = x.snd.snd.fst.fst ∧
 x.snd.snd.fst.snd.fst =
 x.snd.snd.fst.snd.fst ∧
 x.snd.snd.fst.snd.snd.fst =
 x.snd.snd.fst.snd.snd.fst) ∧
 a_3 = a_3 ∧ a_4 = a_4 ∧ a_5 = a_5) ∧
 a ++
 [List.getD (insA x.snd.fst) (Int.toNat a_2)
 (Ty.dflt t35)] =
 a ++
 [List.getD (insA x.snd.fst) (Int.toNat a_2)
 (Ty.dflt t35)] ∧
 True) ∧
 Z
 (a ++
 [List.getD (insA x.snd.fst) (Int.toNat a_2)
 (Ty.dflt t35)],
 a_1, IntKind.wrap IntKind.i64 (a_2 + (1 : Int)),
 a_3, a_4, a_5, ()) ∧
 μ
 (a ++
 [List.getD (insA x.snd.fst) (Int.toNat a_2)
 (Ty.dflt t35)],
 a_1,
 IntKind.wrap IntKind.i64 (a_2 + (1 : Int)),
 a_3, a_4, a_5, ()) <
 μ (a, a_1, a_2, a_3, a_4, a_5, ()))) ∧
 (decide
 ((List.getD (insA x.snd.fst) (Int.toNat a_2)
 (Ty.dflt t35)).snd.fst ≤
 x.snd.snd.fst.snd.fst) =
 false →
 (((List.getD (insA x.snd.fst) (Int.toNat a_2)
 (Ty.dflt t35)).fst ==
 x.snd.snd.fst.snd.snd.fst) =
 true →
 ((IntKind.wrap IntKind.i64 (a_2 + (1 : Int)) =
 IntKind.wrap IntKind.i64 (a_2 + (1 : Int)) ∧
 true = true ∧
 True ∧
 True ∧
 (newA x.fst x.snd.fst).fst =
 (newA x.fst x.snd.fst).fst ∧
 insA x.snd.fst = insA x.snd.fst ∧
 True ∧
 insA x.snd.fst = insA x.snd.fst ∧
 (↑(List.length (insA x.snd.fst)) :
 Int) =
 (↑(List.length (insA x.snd.fst)) :
 Int)) ∧
 ((x.snd.snd.fst.fst = x.snd.snd.fst.fst ∧
 x.snd.snd.fst.snd.fst = x.snd.snd.fst.snd.fst ∧
 x.snd.snd.fst.snd.snd.fst =
 x.snd.snd.fst.snd.snd.fst) ∧
 (List.getD (insA x.snd.fst) (Int.toNat a_2)
 (Ty.dflt t35)).fst =
 (List.getD (insA x.snd.fst) (Int.toNat a_2)
 (Ty.dflt t35)).fst ∧
 (List.getD (insA x.snd.fst) (Int.toNat a_2)
 (Ty.dflt t35)).snd.fst =
 (List.getD (insA x.snd.fst) (Int.toNat a_2)
 (Ty.dflt t35)).snd.fst ∧
 (List.getD (insA x.snd.fst) (Int.toNat a_2)
 (Ty.dflt t35)).snd.snd.fst =
 (List.getD (insA x.snd.fst) (Int.toNat a_2)
 (Ty.dflt t35)).snd.snd.fst) ∧
 a = a ∧ True) ∧
 Z
 (a, true, IntKind.wrap IntKind.i64 (a_2 + (1 : Int)),
 List.getD (insA x.snd.fst) (Int.toNat a_2)
 (Ty.dflt t35)) ∧
 μ
 (a, true,
 IntKind.wrap IntKind.i64 (a_2 + (1 : Int)),
 List.getD (insA x.snd.fst) (Int.toNat a_2)
 (Ty.dflt t35)) <
 μ (a, a_1, a_2, a_3, a_4, a_5, ())) ∧
 (((List.getD (insA x.snd.fst) (Int.toNat a_2)
 (Ty.dflt t35)).fst ==
 x.snd.snd.fst.snd.snd.fst) =
 false →
 ((IntKind.wrap IntKind.i64 (a_2 + (1 : Int)) =
 IntKind.wrap IntKind.i64 (a_2 + (1 : Int)) ∧
 a_1 = a_1 ∧
 True ∧
 True ∧
 (newA x.fst x.snd.fst).fst =
 (newA x.fst x.snd.fst).fst ∧
 insA x.snd.fst = insA x.snd.fst ∧
 True ∧
 insA x.snd.fst = insA x.snd.fst ∧
 (↑(List.length (insA x.snd.fst)) :
 Int) =
 (↑(List.length (insA x.snd.fst)) :
 Int)) ∧
 ((x.snd.snd.fst.fst = x.snd.snd.fst.fst ∧
 x.snd.snd.fst.snd.fst = x.snd.snd.fst.snd.fst ∧
 x.snd.snd.fst.snd.snd.fst =
 x.snd.snd.fst.snd.snd.fst) ∧
 a_3 = a_3 ∧ a_4 = a_4 ∧ a_5 = a_5) ∧
 a = a ∧ True) ∧
 Z
 (a, a_1, IntKind.wrap IntKind.i64 (a_2 + (1 : Int)),
 a_3, a_4, a_5, ()) ∧
 μ
 (a, a_1, IntKind.wrap IntKind.i64 (a_2 + (1 : Int)),
 a_3, a_4, a_5, ()) <
 μ (a, a_1, a_2, a_3, a_4, a_5, ())))) ∧
 (decide
 ((List.getD (insA x.snd.fst) (Int.toNat a_2)
 (Ty.dflt t35)).snd.fst ≥
 x.snd.snd.fst.fst) =
 false →
 (((List.getD (insA x.snd.fst) (Int.toNat a_2) (Ty.dflt t35)).fst ==
 x.snd.snd.fst.snd.snd.fst) =
 true →
 ((IntKind.wrap IntKind.i64 (a_2 + (1 : Int)) =
 IntKind.wrap IntKind.i64 (a_2 + (1 : Int)) ∧
 true = true ∧
 True ∧
 True ∧
 (newA x.fst x.snd.fst).fst =
 (newA x.fst x.snd.fst).fst ∧
 insA x.snd.fst = insA x.snd.fst ∧
 True ∧
 insA x.snd.fst = insA x.snd.fst ∧
 (↑(List.length (insA x.snd.fst)) : Int) =
 (↑(List.length (insA x.snd.fst)) : Int)) ∧
 ((x.snd.snd.fst.fst = x.snd.snd.fst.fst ∧
 x.snd.snd.fst.snd.fst = x.snd.snd.fst.snd.fst ∧
 x.snd.snd.fst.snd.snd.fst =
 x.snd.snd.fst.snd.snd.fst) ∧
 (List.getD (insA x.snd.fst) (Int.toNat a_2)
 (Ty.dflt t35)).fst =
 (List.getD (insA x.snd.fst) (Int.toNat a_2)
 (Ty.dflt t35)).fst ∧
 (List.getD (insA x.snd.fst) (Int.toNat a_2)
 (Ty.dflt t35)).snd.fst =
 (List.getD (insA x.snd.fst) (Int.toNat a_2)
 (Ty.dflt t35)).snd.fst ∧
 (List.getD (insA x.snd.fst) (Int.toNat a_2)
 (Ty.dflt t35)).snd.snd.fst =
 (List.getD (insA x.snd.fst) (Int.toNat a_2)
 (Ty.dflt t35)).snd.snd.fst) ∧
 a = a ∧ True) ∧
 Z
 (a, true, IntKind.wrap IntKind.i64 (a_2 + (1 : Int)),
 List.getD (insA x.snd.fst) (Int.toNat a_2)
 (Ty.dflt t35)) ∧
 μ
 (a, true, IntKind.wrap IntKind.i64 (a_2 + (1 : Int)),
 List.getD (insA x.snd.fst) (Int.toNat a_2)
 (Ty.dflt t35)) <
 μ (a, a_1, a_2, a_3, a_4, a_5, ())) ∧
 (((List.getD (insA x.snd.fst) (Int.toNat a_2)
 (Ty.dflt t35)).fst ==
 x.snd.snd.fst.snd.snd.fst) =
 false →
 ((IntKind.wrap IntKind.i64 (a_2 + (1 : Int)) =
 IntKind.wrap IntKind.i64 (a_2 + (1 : Int)) ∧
 a_1 = a_1 ∧
 True ∧
 True ∧
 (newA x.fst x.snd.fst).fst =
 (newA x.fst x.snd.fst).fst ∧
 insA x.snd.fst = insA x.snd.fst ∧
 True ∧
 insA x.snd.fst = insA x.snd.fst ∧
 (↑(List.length (insA x.snd.fst)) : Int) =
 (↑(List.length (insA x.snd.fst)) : Int)) ∧
 ((x.snd.snd.fst.fst = x.snd.snd.fst.fst ∧
 x.snd.snd.fst.snd.fst = x.snd.snd.fst.snd.fst ∧
 x.snd.snd.fst.snd.snd.fst =
 x.snd.snd.fst.snd.snd.fst) ∧
 a_3 = a_3 ∧ a_4 = a_4 ∧ a_5 = a_5) ∧
 a = a ∧ True) ∧
 Z
 (a, a_1, IntKind.wrap IntKind.i64 (a_2 + (1 : Int)), a_3,
 a_4, a_5, ()) ∧
 μ
 (a, a_1, IntKind.wrap IntKind.i64 (a_2 + (1 : Int)),
 a_3, a_4, a_5, ()) <
 μ (a, a_1, a_2, a_3, a_4, a_5, ())))) ∧
 (decide (a_2 < (↑(List.length (insA x.snd.fst)) : Int)) = false →
 True ∧
 List.length (allA (newA x.fst x.snd.fst).fst) ≤ (10000 : Nat) ∧
 (List.length (allA (newA x.fst x.snd.fst).fst) ≤ (10000 : Nat) ∧
 List.length (insA x.snd.fst) ≤ maxLen) ∧
 (decide (allA (newA x.fst x.snd.fst).fst = insA x.snd.fst) = true →
 List.length (allA (newA x.fst x.snd.fst).fst) ≤ (10000 : Nat) ∧
 (List.length
 (List.filter
 (inA x.snd.snd.fst.fst x.snd.snd.fst.snd.fst)
 (allA (newA x.fst x.snd.fst).fst)) ≤
 (10000 : Nat) ∧
 List.length a ≤ maxLen) ∧
 (decide
 (List.filter
 (inA x.snd.snd.fst.fst x.snd.snd.fst.snd.fst)
 (allA (newA x.fst x.snd.fst).fst) =
 a) =
 true →
 (Ty.beq t4
 ((getA (newA x.fst x.snd.fst).fst
 x.snd.snd.fst.snd.snd.fst).snd.fst ==
 (0 : Int))
 a_1 =
 true →
 ((Ty.beq t4
 ((getA (newA x.fst x.snd.fst).fst
 x.snd.snd.fst.snd.snd.fst).snd.fst ==
 (6 : Int))
 !a_1) =
 true →
 List.length
 [(getA (newA x.fst x.snd.fst).fst
 x.snd.snd.fst.snd.snd.fst).fst] ≤
 (10000 : Nat) ∧
 ((0 : Int) ≤ (0 : Int) ∧
 (0 : Int) <
 (↑(List.length
 [(getA (newA x.fst x.snd.fst).fst
 x.snd.snd.fst.snd.snd.fst).fst]) :
 Int)) ∧
 (Ty.beq t35
 (List.getD
 [(getA (newA x.fst x.snd.fst).fst
 x.snd.snd.fst.snd.snd.fst).fst]
 (Int.toNat (0 : Int))
 (Ty.dflt t35))
 (a_3, a_4, a_5, ()) =
 true →
 True ∧ true = true) ∧
 (Ty.beq t35
 (List.getD
 [(getA (newA x.fst x.snd.fst).fst
 x.snd.snd.fst.snd.snd.fst).fst]
 (Int.toNat (0 : Int))
 (Ty.dflt t35))
 (a_3, a_4, a_5, ()) =
 false →
 false = true)) ∧
 ((Ty.beq t4
 ((getA (newA x.fst x.snd.fst).fst
 x.snd.snd.fst.snd.snd.fst).snd.fst ==
 (6 : Int))
 !a_1) =
 false →
 false = true)) ∧
 (Ty.beq t4
 ((getA (newA x.fst x.snd.fst).fst
 x.snd.snd.fst.snd.snd.fst).snd.fst ==
 (0 : Int))
 a_1 =
 false →
 false = true)) ∧
 (decide
 (List.filter
 (inA x.snd.snd.fst.fst x.snd.snd.fst.snd.fst)
 (allA (newA x.fst x.snd.fst).fst) =
 a) =
 false →
 false = true)) ∧
 (decide (allA (newA x.fst x.snd.fst).fst = insA x.snd.fst) =
 false →
 false = true))))))
theorem vcEq3 : fnVC E3 Try.f3 (bodyOf Try.f3) cAnchorSets = vc3 := by kernel_rfl
/- fn 4 -/
def hs4 : List (Nat × Nat × Hint) := [(0, 12, ⟨[.slot 11 t3, .slot 12 t3, .slot 73 t3], [0, 1, 2, 9, 10, 71, 72], [], []⟩)]
def nm4 : List Nat := [3000000023]
noncomputable def E4 : Env := env tab [(11, cRefs), (10, cWrong), (8, cBoth), (9, cNew), (17, cShift), (15, cAll), (12, cOrdered), (14, cSame), (19, cChanges), (18, cRefNormal), (20, cShifted)] [] noGl hs4 nm4
def vc4 : Prop :=
 ∀ (x : Int × List Anc × List Chg × Unit),
 List.length x.snd.fst ≤ maxLen ∧ List.length x.snd.snd.fst ≤ maxLen →
 (decide ((↑(List.length x.snd.fst) : Int) > (200 : Int)) = true → True ∧ true = true) ∧
 (decide ((↑(List.length x.snd.fst) : Int) > (200 : Int)) = false →
 (decide ((↑(List.length x.snd.snd.fst) : Int) > (100 : Int)) = true → True ∧ true = true) ∧
 (decide ((↑(List.length x.snd.snd.fst) : Int) > (100 : Int)) = false →
 List.length x.snd.fst ≤ (10000 : Nat) ∧
 List.length x.snd.fst ≤ maxLen ∧
 ((wrongA x.fst x.snd.fst != (0 : Int)) = true → True ∧ true = true) ∧
 ((wrongA x.fst x.snd.fst != (0 : Int)) = false →
 List.length x.snd.fst ≤ maxLen ∧
 (List.length (allA (newA x.fst x.snd.fst).fst) ≤ (10000 : Nat) ∧
 (0 : Int) ≤ lenA (newA x.fst x.snd.fst).fst ∧
 lenA (newA x.fst x.snd.fst).fst ≤ (1099511627776 : Int) ∧
 List.length x.snd.snd.fst ≤ (1000 : Nat)) ∧
 (((newA x.fst x.snd.fst).snd.fst != (0 : Int)) = true → false = true) ∧
 (((newA x.fst x.snd.fst).snd.fst != (0 : Int)) = false →
 (Option.isNone (newA x.fst x.snd.fst).fst = true → false = true) ∧
 (Option.isNone (newA x.fst x.snd.fst).fst = false →
 List.length (allA (newA x.fst x.snd.fst).fst) ≤ (10000 : Nat) ∧
 List.length x.snd.fst ≤ (10000 : Nat) ∧
 List.length x.snd.fst ≤ (10000 : Nat) ∧
 (List.length (allA (newA x.fst x.snd.fst).fst) ≤ (10000 : Nat) ∧
 List.length (insA x.snd.fst) ≤ maxLen) ∧
 ((!decide (allA (newA x.fst x.snd.fst).fst = insA x.snd.fst)) = true →
 false = true) ∧
 ((!decide (allA (newA x.fst x.snd.fst).fst = insA x.snd.fst)) = false →
 List.length x.snd.snd.fst ≤ (1000000000 : Nat) ∧
 List.length x.snd.snd.fst ≤ maxLen ∧
 ((!normal x.snd.snd.fst) = true →
 (((shiftA (newA x.fst x.snd.fst).fst x.snd.snd.fst).snd.fst ==
 (4 : Int)) =
 true →
 (Option.isNone
 (shiftA (newA x.fst x.snd.fst).fst x.snd.snd.fst).fst =
 true →
 True ∧ true = true) ∧
 (Option.isNone
 (shiftA (newA x.fst x.snd.fst).fst x.snd.snd.fst).fst =
 false →
 false = true)) ∧
 (((shiftA (newA x.fst x.snd.fst).fst x.snd.snd.fst).snd.fst ==
 (4 : Int)) =
 false →
 false = true)) ∧
 ((!normal x.snd.snd.fst) = false →
 ((0 : Int) = (0 : Int) ∧
 (0 : Int) = (0 : Int) ∧
 (0 : Int) = (0 : Int) ∧
 x.fst = x.fst ∧
 x.snd.fst = x.snd.fst ∧
 x.snd.snd.fst = x.snd.snd.fst ∧
 (shiftA (newA x.fst x.snd.fst).fst
 x.snd.snd.fst).fst =
 (shiftA (newA x.fst x.snd.fst).fst
 x.snd.snd.fst).fst ∧
 (shiftA (newA x.fst x.snd.fst).fst
 x.snd.snd.fst).snd.fst =
 (shiftA (newA x.fst x.snd.fst).fst
 x.snd.snd.fst).snd.fst ∧
 x.snd.snd.fst = x.snd.snd.fst ∧
 (↑(List.length x.snd.snd.fst) : Int) =
 (↑(List.length x.snd.snd.fst) : Int)) ∧
 ∃ (Z : Int × Int × Int × Unit → Prop),
 ∃ (μ : Int × Int × Int × Unit → Nat),
 Z ((0 : Int), (0 : Int), (0 : Int), ()) ∧
 ∀ (a a_1 a_2 : Int),
 Z (a, a_1, a_2, ()) →
 (decide (a_2 < (↑(List.length x.snd.snd.fst) : Int)) =
 true →
 ((0 : Int) ≤ a_2 ∧
 a_2 < (↑(List.length x.snd.snd.fst) : Int)) ∧
 (IntKind.wrap IntKind.i64 (a_2 + (1 : Int)) =
 IntKind.wrap IntKind.i64 (a_2 + (1 : Int)) ∧
 (List.getD x.snd.snd.fst (Int.toNat a_2)
 (Ty.dflt t51)).fst.snd.fst =
 (List.getD x.snd.snd.fst (Int.toNat a_2)
 (Ty.dflt t51)).fst.snd.fst ∧
 IntKind.wrap IntKind.i64
 (IntKind.wrap IntKind.i64
 (a +
 IntKind.wrap IntKind.i64
 ((List.getD x.snd.snd.fst
 (Int.toNat a_2)
 (Ty.dflt
 t51)).snd.fst.snd.fst -
 (List.getD x.snd.snd.fst
 (Int.toNat a_2)
 (Ty.dflt
 t51)).snd.fst.fst)) -
 IntKind.wrap IntKind.i64
 ((List.getD x.snd.snd.fst
 (Int.toNat a_2)
 (Ty.dflt
 t51)).fst.snd.fst -
 (List.getD x.snd.snd.fst
 (Int.toNat a_2)
 (Ty.dflt t51)).fst.fst)) =
 IntKind.wrap IntKind.i64
 (IntKind.wrap IntKind.i64
 (a +
 IntKind.wrap IntKind.i64
 ((List.getD x.snd.snd.fst
 (Int.toNat a_2)
 (Ty.dflt
 t51)).snd.fst.snd.fst -
 (List.getD x.snd.snd.fst
 (Int.toNat a_2)
 (Ty.dflt
 t51)).snd.fst.fst)) -
 IntKind.wrap IntKind.i64
 ((List.getD x.snd.snd.fst
 (Int.toNat a_2)
 (Ty.dflt
 t51)).fst.snd.fst -
 (List.getD x.snd.snd.fst
 (Int.toNat a_2)
 (Ty.dflt t51)).fst.fst)) ∧
 x.fst = x.fst ∧
 x.snd.fst = x.snd.fst ∧
 x.snd.snd.fst = x.snd.snd.fst ∧
 (shiftA (newA x.fst x.snd.fst).fst
 x.snd.snd.fst).fst =
 (shiftA
 (newA x.fst x.snd.fst).fst
 x.snd.snd.fst).fst ∧
 (shiftA (newA x.fst x.snd.fst).fst
 x.snd.snd.fst).snd.fst =
 (shiftA
 (newA x.fst
 x.snd.fst).fst
 x.snd.snd.fst).snd.fst ∧
 x.snd.snd.fst = x.snd.snd.fst ∧
 (↑(List.length
 x.snd.snd.fst) :
 Int) =
 (↑(List.length
 x.snd.snd.fst) :
 Int)) ∧
 Z
 (IntKind.wrap IntKind.i64
 (IntKind.wrap IntKind.i64
 (a +
 IntKind.wrap IntKind.i64
 ((List.getD x.snd.snd.fst
 (Int.toNat a_2)
 (Ty.dflt
 t51)).snd.fst.snd.fst -
 (List.getD x.snd.snd.fst
 (Int.toNat a_2)
 (Ty.dflt
 t51)).snd.fst.fst)) -
 IntKind.wrap IntKind.i64
 ((List.getD x.snd.snd.fst
 (Int.toNat a_2)
 (Ty.dflt
 t51)).fst.snd.fst -
 (List.getD x.snd.snd.fst
 (Int.toNat a_2)
 (Ty.dflt t51)).fst.fst)),
 (List.getD x.snd.snd.fst (Int.toNat a_2)
 (Ty.dflt t51)).fst.snd.fst,
 IntKind.wrap IntKind.i64
 (a_2 + (1 : Int)),
 ()) ∧
 μ
 (IntKind.wrap IntKind.i64
 (IntKind.wrap IntKind.i64
 (a +
 IntKind.wrap IntKind.i64
 ((List.getD x.snd.snd.fst
 (Int.toNat a_2)
 (Ty.dflt
 t51)).snd.fst.snd.fst -
 (List.getD x.snd.snd.fst
 (Int.toNat a_2)
 (Ty.dflt
 t51)).snd.fst.fst)) -
 IntKind.wrap IntKind.i64
 ((List.getD x.snd.snd.fst
 (Int.toNat a_2)
 (Ty.dflt
 t51)).fst.snd.fst -
 (List.getD x.snd.snd.fst
 (Int.toNat a_2)
 (Ty.dflt t51)).fst.fst)),
 (List.getD x.snd.snd.fst (Int.toNat a_2)
 (Ty.dflt t51)).fst.snd.fst,
 IntKind.wrap IntKind.i64
 (a_2 + (1 : Int)),
 ()) <
 μ (a, a_1, a_2, ())) ∧
 (decide (a_2 < (↑(List.length x.snd.snd.fst) : Int)) =
 false →
 (decide (a_1 > x.fst) = true →
 (((shiftA (newA x.fst x.snd.fst).fst
 x.snd.snd.fst).snd.fst ==
 (1 : Int)) =
 true →
 (Option.isNone
 (shiftA (newA x.fst x.snd.fst).fst
 x.snd.snd.fst).fst =
 true →
 True ∧ true = true) ∧
 (Option.isNone
 (shiftA (newA x.fst x.snd.fst).fst
 x.snd.snd.fst).fst =
 false →
 false = true)) ∧
 (((shiftA (newA x.fst x.snd.fst).fst
 x.snd.snd.fst).snd.fst ==
 (1 : Int)) =
 false →
 false = true)) ∧
 (decide (a_1 > x.fst) = false →
 (decide
 (IntKind.wrap IntKind.i64 (x.fst + a) >
 (1099511627776 : Int)) =
 true →
 (((shiftA (newA x.fst x.snd.fst).fst
 x.snd.snd.fst).snd.fst ==
 (1 : Int)) =
 true →
 (Option.isNone
 (shiftA
 (newA x.fst x.snd.fst).fst
 x.snd.snd.fst).fst =
 true →
 True ∧ true = true) ∧
 (Option.isNone
 (shiftA
 (newA x.fst x.snd.fst).fst
 x.snd.snd.fst).fst =
 false →
 false = true)) ∧
 (((shiftA (newA x.fst x.snd.fst).fst
 x.snd.snd.fst).snd.fst ==
 (1 : Int)) =
 false →
 false = true)) ∧
 (decide
 (IntKind.wrap IntKind.i64 (x.fst + a) >
 (1099511627776 : Int)) =
 false →
 (((shiftA (newA x.fst x.snd.fst).fst
 x.snd.snd.fst).snd.fst ==
 (0 : Int)) =
 true →
 (Option.isSome
 (shiftA
 (newA x.fst x.snd.fst).fst
 x.snd.snd.fst).fst =
 true →
 List.length
 (allA
 (shiftA
 (newA x.fst
 x.snd.fst).fst
 x.snd.snd.fst).fst) ≤
 (10000 : Nat) ∧
 List.length x.snd.fst ≤
 (10000 : Nat) ∧
 List.length x.snd.snd.fst ≤
 (1000000000 : Nat) ∧
 (List.length x.snd.fst ≤
 (10000 : Nat) ∧
 List.length
 x.snd.snd.fst ≤
 (1000 : Nat) ∧
 normal x.snd.snd.fst =
 true ∧
 ∀ (a : Anc),
 a ∈
 x.snd.fst →
 (0 : Int) ≤
 a.snd.fst ∧
 a.snd.fst ≤
 (1099511627776 :
 Int)) ∧
 (List.length
 (allA
 (shiftA
 (newA x.fst
 x.snd.fst).fst
 x.snd.snd.fst).fst) ≤
 (10000 : Nat) ∧
 List.length
 (insA
 (List.map
 (moveR
 x.snd.snd.fst)
 x.snd.fst)) ≤
 maxLen) ∧
 (decide
 (allA
 (shiftA
 (newA
 x.fst
 x.snd.fst).fst
 x.snd.snd.fst).fst =
 insA
 (List.map
 (moveR
 x.snd.snd.fst)
 x.snd.fst)) =
 true →
 True ∧ true = true) ∧
 (decide
 (allA
 (shiftA
 (newA
 x.fst
 x.snd.fst).fst
 x.snd.snd.fst).fst =
 insA
 (List.map
 (moveR
 x.snd.snd.fst)
 x.snd.fst)) =
 false →
 false = true)) ∧
 (Option.isSome
 (shiftA
 (newA x.fst x.snd.fst).fst
 x.snd.snd.fst).fst =
 false →
 false = true)) ∧
 (((shiftA (newA x.fst x.snd.fst).fst
 x.snd.snd.fst).snd.fst ==
 (0 : Int)) =
 false →
 false = true)))))))))))
theorem vcEq4 : fnVC E4 Try.f4 (bodyOf Try.f4) cAnchorShifts = vc4 := by kernel_rfl
/- fn 5 -/
def hs5 : List (Nat × Nat × Hint) := [(0, 8, ⟨[.slot 59 t3], [1, 9, 57, 58], [], []⟩),
  (0, 14, ⟨[.slot 74 t3], [1, 9, 12, 13, 57, 58, 59, 72, 73], [12, 13], []⟩)]
def nm5 : List Nat := [3000000023]
noncomputable def E5 : Env := env tab [(8, cBoth), (9, cNew), (17, cShift), (11, cRefs), (10, cWrong), (13, cGet)] [] noGl hs5 nm5
def vc5 : Prop :=
 ∀ (x : Int × List Anc × List Chg × Unit),
 List.length x.snd.fst ≤ maxLen ∧ List.length x.snd.snd.fst ≤ maxLen →
 (decide ((↑(List.length x.snd.fst) : Int) > (60 : Int)) = true → True ∧ true = true) ∧
 (decide ((↑(List.length x.snd.fst) : Int) > (60 : Int)) = false →
 (decide ((↑(List.length x.snd.snd.fst) : Int) > (100 : Int)) = true → True ∧ true = true) ∧
 (decide ((↑(List.length x.snd.snd.fst) : Int) > (100 : Int)) = false →
 List.length x.snd.fst ≤ maxLen ∧
 (List.length (allA (newA x.fst x.snd.fst).fst) ≤ (10000 : Nat) ∧
 (0 : Int) ≤ lenA (newA x.fst x.snd.fst).fst ∧
 lenA (newA x.fst x.snd.fst).fst ≤ (1099511627776 : Int) ∧
 List.length x.snd.snd.fst ≤ (1000 : Nat)) ∧
 (((newA x.fst x.snd.fst).snd.fst != (0 : Int)) = true →
 List.length x.snd.fst ≤ (10000 : Nat) ∧
 List.length x.snd.fst ≤ maxLen ∧
 (Ty.beq t4 ((newA x.fst x.snd.fst).snd.fst != (0 : Int)) (wrongA x.fst x.snd.fst != (0 : Int)) =
 true →
 True ∧ true = true) ∧
 (Ty.beq t4 ((newA x.fst x.snd.fst).snd.fst != (0 : Int))
 (wrongA x.fst x.snd.fst != (0 : Int)) =
 false →
 false = true)) ∧
 (((newA x.fst x.snd.fst).snd.fst != (0 : Int)) = false →
 (((shiftA (newA x.fst x.snd.fst).fst x.snd.snd.fst).snd.fst != (0 : Int)) = true →
 List.length x.snd.fst ≤ (10000 : Nat) ∧
 List.length x.snd.fst ≤ maxLen ∧
 (Ty.beq t4 ((newA x.fst x.snd.fst).snd.fst != (0 : Int))
 (wrongA x.fst x.snd.fst != (0 : Int)) =
 true →
 True ∧ true = true) ∧
 (Ty.beq t4 ((newA x.fst x.snd.fst).snd.fst != (0 : Int))
 (wrongA x.fst x.snd.fst != (0 : Int)) =
 false →
 false = true)) ∧
 (((shiftA (newA x.fst x.snd.fst).fst x.snd.snd.fst).snd.fst != (0 : Int)) = false →
 ((0 : Int) = (0 : Int) ∧
 x.snd.fst = x.snd.fst ∧
 (shiftA (newA x.fst x.snd.fst).fst x.snd.snd.fst).fst =
 (shiftA (newA x.fst x.snd.fst).fst x.snd.snd.fst).fst ∧
 x.snd.fst = x.snd.fst ∧
 (↑(List.length x.snd.fst) : Int) = (↑(List.length x.snd.fst) : Int)) ∧
 ∃ (Z : Int × Unit → Prop),
 ∃ (μ : Int × Unit → Nat),
 Z ((0 : Int), ()) ∧
 ∀ (a : Int),
 Z (a, ()) →
 (decide (a < (↑(List.length x.snd.fst) : Int)) = true →
 ((0 : Int) ≤ a ∧ a < (↑(List.length x.snd.fst) : Int)) ∧
 True ∧
 (((getA (shiftA (newA x.fst x.snd.fst).fst x.snd.snd.fst).fst
 (List.getD x.snd.fst (Int.toNat a)
 (Ty.dflt t36)).fst).snd.fst !=
 (0 : Int)) =
 true →
 false = true) ∧
 (((getA (shiftA (newA x.fst x.snd.fst).fst x.snd.snd.fst).fst
 (List.getD x.snd.fst (Int.toNat a)
 (Ty.dflt t36)).fst).snd.fst !=
 (0 : Int)) =
 false →
 (((0 : Int) = (0 : Int) ∧
 x.snd.fst = x.snd.fst ∧
 (shiftA (newA x.fst x.snd.fst).fst x.snd.snd.fst).fst =
 (shiftA (newA x.fst x.snd.fst).fst x.snd.snd.fst).fst ∧
 True ∧
 True ∧
 x.snd.fst = x.snd.fst ∧
 (↑(List.length x.snd.fst) : Int) =
 (↑(List.length x.snd.fst) : Int) ∧
 a = a ∧
 x.snd.fst = x.snd.fst ∧
 (↑(List.length x.snd.fst) : Int) =
 (↑(List.length x.snd.fst) : Int)) ∧
 ((List.getD x.snd.fst (Int.toNat a) (Ty.dflt t36)).fst =
 (List.getD x.snd.fst (Int.toNat a) (Ty.dflt t36)).fst ∧
 (List.getD x.snd.fst (Int.toNat a) (Ty.dflt t36)).snd.fst =
 (List.getD x.snd.fst (Int.toNat a) (Ty.dflt t36)).snd.fst ∧
 (List.getD x.snd.fst (Int.toNat a)
 (Ty.dflt t36)).snd.snd.fst =
 (List.getD x.snd.fst (Int.toNat a)
 (Ty.dflt t36)).snd.snd.fst) ∧
 (getA (shiftA (newA x.fst x.snd.fst).fst x.snd.snd.fst).fst
 (List.getD x.snd.fst (Int.toNat a)
 (Ty.dflt t36)).fst).fst.fst =
 (getA (shiftA (newA x.fst x.snd.fst).fst x.snd.snd.fst).fst
 (List.getD x.snd.fst (Int.toNat a)
 (Ty.dflt t36)).fst).fst.fst ∧
 (getA (shiftA (newA x.fst x.snd.fst).fst x.snd.snd.fst).fst
 (List.getD x.snd.fst (Int.toNat a)
 (Ty.dflt t36)).fst).fst.snd.fst =
 (getA (shiftA (newA x.fst x.snd.fst).fst x.snd.snd.fst).fst
 (List.getD x.snd.fst (Int.toNat a)
 (Ty.dflt t36)).fst).fst.snd.fst ∧
 (getA (shiftA (newA x.fst x.snd.fst).fst x.snd.snd.fst).fst
 (List.getD x.snd.fst (Int.toNat a)
 (Ty.dflt t36)).fst).fst.snd.snd.fst =
 (getA (shiftA (newA x.fst x.snd.fst).fst x.snd.snd.fst).fst
 (List.getD x.snd.fst (Int.toNat a)
 (Ty.dflt t36)).fst).fst.snd.snd.fst) ∧
 ∃ (Z_1 : Int × Unit → Prop),
 ∃ (μ_1 : Int × Unit → Nat),
 Z_1 ((0 : Int), ()) ∧
 ∀ (a_4 : Int),
 Z_1 (a_4, ()) →
 (decide (a_4 < (↑(List.length x.snd.fst) : Int)) = true →
 ((0 : Int) ≤ a_4 ∧
 a_4 < (↑(List.length x.snd.fst) : Int)) ∧
 True ∧
 (((getA
 (shiftA (newA x.fst x.snd.fst).fst
 x.snd.snd.fst).fst
 (List.getD x.snd.fst (Int.toNat a_4)
 (Ty.dflt t36)).fst).snd.fst !=
 (0 : Int)) =
 true →
 false = true) ∧
 (((getA
 (shiftA (newA x.fst x.snd.fst).fst
 x.snd.snd.fst).fst
 (List.getD x.snd.fst (Int.toNat a_4)
 (Ty.dflt t36)).fst).snd.fst !=
 (0 : Int)) =
 false →
 (decide
 ((List.getD x.snd.fst (Int.toNat a)
 (Ty.dflt t36)).snd.fst ≤
 (List.getD x.snd.fst (Int.toNat a_4)
 (Ty.dflt t36)).snd.fst) =
 true →
 (decide
 ((List.getD x.snd.fst (Int.toNat a)
 (Ty.dflt
 t36)).snd.snd.fst ≤
 (List.getD x.snd.fst
 (Int.toNat a_4)
 (Ty.dflt
 t36)).snd.snd.fst) =
 true →
 (decide
 ((getA
 (shiftA
 (newA x.fst
 x.snd.fst).fst
 x.snd.snd.fst).fst
 (List.getD x.snd.fst
 (Int.toNat a)
 (Ty.dflt
 t36)).fst).fst.snd.fst >
 (getA
 (shiftA
 (newA x.fst
 x.snd.fst).fst
 x.snd.snd.fst).fst
 (List.getD x.snd.fst
 (Int.toNat a_4)
 (Ty.dflt
 t36)).fst).fst.snd.fst) =
 true →
 false = true) ∧
 (decide
 ((getA
 (shiftA
 (newA x.fst
 x.snd.fst).fst
 x.snd.snd.fst).fst
 (List.getD x.snd.fst
 (Int.toNat a)
 (Ty.dflt
 t36)).fst).fst.snd.fst >
 (getA
 (shiftA
 (newA x.fst
 x.snd.fst).fst
 x.snd.snd.fst).fst
 (List.getD x.snd.fst
 (Int.toNat a_4)
 (Ty.dflt
 t36)).fst).fst.snd.fst) =
 false →
 ((IntKind.wrap IntKind.i64
 (a_4 + (1 : Int)) =
 IntKind.wrap IntKind.i64
 (a_4 + (1 : Int)) ∧
 x.snd.fst = x.snd.fst ∧
 (shiftA
 (newA x.fst
 x.snd.fst).fst
 x.snd.snd.fst).fst =
 (shiftA
 (newA x.fst
 x.snd.fst).fst
 x.snd.snd.fst).fst ∧
 True ∧
 True ∧
 x.snd.fst =
 x.snd.fst ∧
 (↑(List.length
 x.snd.fst) :
 Int) =
 (↑(List.length
 x.snd.fst) :
 Int) ∧
 a = a ∧
 x.snd.fst =
 x.snd.fst ∧
 (↑(List.length
 x.snd.fst) :
 Int) =
 (↑(List.length
 x.snd.fst) :
 Int)) ∧
 ((List.getD x.snd.fst
 (Int.toNat a)
 (Ty.dflt t36)).fst =
 (List.getD x.snd.fst
 (Int.toNat a)
 (Ty.dflt t36)).fst ∧
 (List.getD x.snd.fst
 (Int.toNat a)
 (Ty.dflt
 t36)).snd.fst =
 (List.getD x.snd.fst
 (Int.toNat a)
 (Ty.dflt
 t36)).snd.fst ∧
 (List.getD x.snd.fst
 (Int.toNat a)
 (Ty.dflt
 t36)).snd.snd.fst =
 (List.getD x.snd.fst
 (Int.toNat a)
 (Ty.dflt
 t36)).snd.snd.fst) ∧
 (getA
 (shiftA
 (newA x.fst
 x.snd.fst).fst
 x.snd.snd.fst).fst
 (List.getD x.snd.fst
 (Int.toNat a)
 (Ty.dflt
 t36)).fst).fst.fst =
 (getA
 (shiftA
 (newA x.fst
 x.snd.fst).fst
 x.snd.snd.fst).fst
 (List.getD x.snd.fst
 (Int.toNat a)
 (Ty.dflt
 t36)).fst).fst.fst ∧
 (getA
 (shiftA
 (newA x.fst
 x.snd.fst).fst
 x.snd.snd.fst).fst
 (List.getD
 x.snd.fst
 (Int.toNat
 a)
 (Ty.dflt
 t36)).fst).fst.snd.fst =
 (getA
 (shiftA
 (newA x.fst
 x.snd.fst).fst
 x.snd.snd.fst).fst
 (List.getD
 x.snd.fst
 (Int.toNat
 a)
 (Ty.dflt
 t36)).fst).fst.snd.fst ∧
 (getA
 (shiftA
 (newA
 x.fst
 x.snd.fst).fst
 x.snd.snd.fst).fst
 (List.getD
 x.snd.fst
 (Int.toNat
 a)
 (Ty.dflt
 t36)).fst).fst.snd.snd.fst =
 (getA
 (shiftA
 (newA
 x.fst
 x.snd.fst).fst
 x.snd.snd.fst).fst
 (List.getD
 x.snd.fst
 (Int.toNat
 a)
 (Ty.dflt
 t36)).fst).fst.snd.snd.fst) ∧
 Z_1
 (IntKind.wrap IntKind.i64
 (a_4 + (1 : Int)),
 ()) ∧
 μ_1
 (IntKind.wrap IntKind.i64
 (a_4 + (1 : Int)),
 ()) <
 μ_1 (a_4, ()))) ∧
 (decide
 ((List.getD x.snd.fst (Int.toNat a)
 (Ty.dflt
 t36)).snd.snd.fst ≤
 (List.getD x.snd.fst
 (Int.toNat a_4)
 (Ty.dflt
 t36)).snd.snd.fst) =
 false →
 ((IntKind.wrap IntKind.i64
 (a_4 + (1 : Int)) =
 IntKind.wrap IntKind.i64
 (a_4 + (1 : Int)) ∧
 x.snd.fst = x.snd.fst ∧
 (shiftA
 (newA x.fst
 x.snd.fst).fst
 x.snd.snd.fst).fst =
 (shiftA
 (newA x.fst
 x.snd.fst).fst
 x.snd.snd.fst).fst ∧
 True ∧
 True ∧
 x.snd.fst = x.snd.fst ∧
 (↑(List.length
 x.snd.fst) :
 Int) =
 (↑(List.length
 x.snd.fst) :
 Int) ∧
 a = a ∧
 x.snd.fst =
 x.snd.fst ∧
 (↑(List.length
 x.snd.fst) :
 Int) =
 (↑(List.length
 x.snd.fst) :
 Int)) ∧
 ((List.getD x.snd.fst (Int.toNat a)
 (Ty.dflt t36)).fst =
 (List.getD x.snd.fst
 (Int.toNat a)
 (Ty.dflt t36)).fst ∧
 (List.getD x.snd.fst
 (Int.toNat a)
 (Ty.dflt
 t36)).snd.fst =
 (List.getD x.snd.fst
 (Int.toNat a)
 (Ty.dflt
 t36)).snd.fst ∧
 (List.getD x.snd.fst
 (Int.toNat a)
 (Ty.dflt
 t36)).snd.snd.fst =
 (List.getD x.snd.fst
 (Int.toNat a)
 (Ty.dflt
 t36)).snd.snd.fst) ∧
 (getA
 (shiftA
 (newA x.fst
 x.snd.fst).fst
 x.snd.snd.fst).fst
 (List.getD x.snd.fst
 (Int.toNat a)
 (Ty.dflt
 t36)).fst).fst.fst =
 (getA
 (shiftA
 (newA x.fst
 x.snd.fst).fst
 x.snd.snd.fst).fst
 (List.getD x.snd.fst
 (Int.toNat a)
 (Ty.dflt
 t36)).fst).fst.fst ∧
 (getA
 (shiftA
 (newA x.fst
 x.snd.fst).fst
 x.snd.snd.fst).fst
 (List.getD x.snd.fst
 (Int.toNat a)
 (Ty.dflt
 t36)).fst).fst.snd.fst =
 (getA
 (shiftA
 (newA x.fst
 x.snd.fst).fst
 x.snd.snd.fst).fst
 (List.getD x.snd.fst
 (Int.toNat a)
 (Ty.dflt
 t36)).fst).fst.snd.fst ∧
 (getA
 (shiftA
 (newA x.fst
 x.snd.fst).fst
 x.snd.snd.fst).fst
 (List.getD
 x.snd.fst
 (Int.toNat a)
 (Ty.dflt
 t36)).fst).fst.snd.snd.fst =
 (getA
 (shiftA
 (newA x.fst
 x.snd.fst).fst
 x.snd.snd.fst).fst
 (List.getD
 x.snd.fst
 (Int.toNat a)
 (Ty.dflt
 t36)).fst).fst.snd.snd.fst) ∧
 Z_1
 (IntKind.wrap IntKind.i64
 (a_4 + (1 : Int)),
 ()) ∧
 μ_1
 (IntKind.wrap IntKind.i64
 (a_4 + (1 : Int)),
 ()) <
 μ_1 (a_4, ()))) ∧
 (decide
 ((List.getD x.snd.fst (Int.toNat a)
 (Ty.dflt t36)).snd.fst ≤
 (List.getD x.snd.fst (Int.toNat a_4)
 (Ty.dflt t36)).snd.fst) =
 false →
 ((IntKind.wrap IntKind.i64
 (a_4 + (1 : Int)) =
 IntKind.wrap IntKind.i64
 (a_4 + (1 : Int)) ∧
 x.snd.fst = x.snd.fst ∧
 (shiftA (newA x.fst x.snd.fst).fst
 x.snd.snd.fst).fst =
 (shiftA
 (newA x.fst x.snd.fst).fst
 x.snd.snd.fst).fst ∧
 True ∧
 True ∧
 x.snd.fst = x.snd.fst ∧
 (↑(List.length x.snd.fst) :
 Int) =
 (↑(List.length
 x.snd.fst) :
 Int) ∧
 a = a ∧
 x.snd.fst = x.snd.fst ∧
 (↑(List.length
 x.snd.fst) :
 Int) =
 (↑(List.length
 x.snd.fst) :
 Int)) ∧
 ((List.getD x.snd.fst (Int.toNat a)
 (Ty.dflt t36)).fst =
 (List.getD x.snd.fst (Int.toNat a)
 (Ty.dflt t36)).fst ∧
 (List.getD x.snd.fst (Int.toNat a)
 (Ty.dflt t36)).snd.fst =
 (List.getD x.snd.fst
 (Int.toNat a)
 (Ty.dflt t36)).snd.fst ∧
 (List.getD x.snd.fst (Int.toNat a)
 (Ty.dflt
 t36)).snd.snd.fst =
 (List.getD x.snd.fst
 (Int.toNat a)
 (Ty.dflt
 t36)).snd.snd.fst) ∧
 (getA
 (shiftA
 (newA x.fst
 x.snd.fst).fst
 x.snd.snd.fst).fst
 (List.getD x.snd.fst
 (Int.toNat a)
 (Ty.dflt
 t36)).fst).fst.fst =
 (getA
 (shiftA
 (newA x.fst
 x.snd.fst).fst
 x.snd.snd.fst).fst
 (List.getD x.snd.fst
 (Int.toNat a)
 (Ty.dflt
 t36)).fst).fst.fst ∧
 (getA
 (shiftA
 (newA x.fst
 x.snd.fst).fst
 x.snd.snd.fst).fst
 (List.getD x.snd.fst
 (Int.toNat a)
 (Ty.dflt
 t36)).fst).fst.snd.fst =
 (getA
 (shiftA
 (newA x.fst
 x.snd.fst).fst
 x.snd.snd.fst).fst
 (List.getD x.snd.fst
 (Int.toNat a)
 (Ty.dflt
 t36)).fst).fst.snd.fst ∧
 (getA
 (shiftA
 (newA x.fst
 x.snd.fst).fst
 x.snd.snd.fst).fst
 (List.getD x.snd.fst
 (Int.toNat a)
 (Ty.dflt
 t36)).fst).fst.snd.snd.fst =
 (getA
 (shiftA
 (newA x.fst
 x.snd.fst).fst
 x.snd.snd.fst).fst
 (List.getD x.snd.fst
 (Int.toNat a)
 (Ty.dflt
 t36)).fst).fst.snd.snd.fst) ∧
 Z_1
 (IntKind.wrap IntKind.i64
 (a_4 + (1 : Int)),
 ()) ∧
 μ_1
 (IntKind.wrap IntKind.i64
 (a_4 + (1 : Int)),
 ()) <
 μ_1 (a_4, ())))) ∧
 (decide (a_4 < (↑(List.length x.snd.fst) : Int)) = false →
 (IntKind.wrap IntKind.i64 (a + (1 : Int)) =
 IntKind.wrap IntKind.i64 (a + (1 : Int)) ∧
 x.snd.fst = x.snd.fst ∧
 (shiftA (newA x.fst x.snd.fst).fst
 x.snd.snd.fst).fst =
 (shiftA (newA x.fst x.snd.fst).fst
 x.snd.snd.fst).fst ∧
 x.snd.fst = x.snd.fst ∧
 (↑(List.length x.snd.fst) : Int) =
 (↑(List.length x.snd.fst) : Int)) ∧
 Z (IntKind.wrap IntKind.i64 (a + (1 : Int)), ()) ∧
 μ (IntKind.wrap IntKind.i64 (a + (1 : Int)), ()) <
 μ (a, ())))) ∧
 (decide (a < (↑(List.length x.snd.fst) : Int)) = false → True ∧ true = true)))))
theorem vcEq5 : fnVC E5 Try.f5 (bodyOf Try.f5) cAnchorStays = vc5 := by kernel_rfl
/- fn 6 -/
def hs6 : List (Nat × Nat × Hint) := []
def nm6 : List Nat := [3000000023]
noncomputable def E6 : Env := env tab [(8, cBoth), (13, cGet), (17, cShift), (15, cAll), (16, cBetween), (19, cChanges), (18, cRefNormal)] [] noGl hs6 nm6
def vc6 : Prop :=
 ∀ (x : Int × List Chg × Unit),
 List.length x.snd.fst ≤ maxLen →
 (decide ((↑(List.length x.snd.fst) : Int) > (100 : Int)) = true → True ∧ true = true) ∧
 (decide ((↑(List.length x.snd.fst) : Int) > (100 : Int)) = false →
 True ∧
 (List.length (allA none) ≤ (10000 : Nat) ∧
 (0 : Int) ≤ lenA none ∧ lenA none ≤ (1099511627776 : Int) ∧ (0 : Nat) ≤ (1000 : Nat)) ∧
 (List.length (allA none) ≤ (10000 : Nat) ∧
 (0 : Int) ≤ lenA none ∧ lenA none ≤ (1099511627776 : Int) ∧ List.length x.snd.fst ≤ (1000 : Nat)) ∧
 (((getA none x.fst).snd.fst == (6 : Int)) = true →
 (((shiftA none []).snd.fst == (0 : Int)) = true →
 (Option.isSome (shiftA none []).fst = true →
 List.length (allA (shiftA none []).fst) ≤ (10000 : Nat) ∧
 (((↑(List.length (allA (shiftA none []).fst)) : Int) == (0 : Int)) = true →
 List.length (allA none) ≤ (10000 : Nat) ∧
 (((↑(List.length (allA none)) : Int) == (0 : Int)) = true →
 List.length (allA none) ≤ (10000 : Nat) ∧
 (((↑(List.length (List.filter (inA (0 : Int) (9 : Int)) (allA none))) : Int) ==
 (0 : Int)) =
 true →
 List.length x.snd.fst ≤ (1000000000 : Nat) ∧
 List.length x.snd.fst ≤ maxLen ∧
 ((Ty.beq t4 ((shiftA none x.snd.fst).snd.fst == (4 : Int))
 !normal x.snd.fst) =
 true →
 True ∧ true = true) ∧
 ((Ty.beq t4 ((shiftA none x.snd.fst).snd.fst == (4 : Int))
 !normal x.snd.fst) =
 false →
 false = true)) ∧
 (((↑(List.length (List.filter (inA (0 : Int) (9 : Int)) (allA none))) :
 Int) ==
 (0 : Int)) =
 false →
 false = true)) ∧
 (((↑(List.length (allA none)) : Int) == (0 : Int)) = false → false = true)) ∧
 (((↑(List.length (allA (shiftA none []).fst)) : Int) == (0 : Int)) = false →
 false = true)) ∧
 (Option.isSome (shiftA none []).fst = false → false = true)) ∧
 (((shiftA none []).snd.fst == (0 : Int)) = false → false = true)) ∧
 (((getA none x.fst).snd.fst == (6 : Int)) = false → false = true))
theorem vcEq6 : fnVC E6 Try.f6 (bodyOf Try.f6) cAnchorNil = vc6 := by kernel_rfl
/- fn 7 -/
def hs7 : List (Nat × Nat × Hint) := [(0, 5, ⟨[.rowS 7 900000007 t36 36, .slot 8 t3], [0, 1, 2], [], []⟩),
  (0, 13, ⟨[.slot 63 t3], [1, 2, 7, 11, 61, 62], [], [31, 900000007]⟩)]
def nm7 : List Nat := [3000000023]
noncomputable def E7 : Env := env tab [(8, cBoth), (9, cNew), (17, cShift), (11, cRefs), (10, cWrong), (21, cInvert), (15, cAll), (14, cSame)] [] noGl hs7 nm7
def vc7 : Prop :=
 ∀ (x : Int × Int × List Chg × Unit),
 List.length x.snd.snd.fst ≤ maxLen →
 (decide ((↑(List.length x.snd.snd.fst) : Int) > (100 : Int)) = true → True ∧ true = true) ∧
 (decide ((↑(List.length x.snd.snd.fst) : Int) > (100 : Int)) = false →
 (((0 : Int) = (0 : Int) ∧ True ∧ x.fst = x.fst ∧ x.snd.fst = x.snd.fst ∧ x.snd.snd.fst = x.snd.snd.fst) ∧
 True ∧ True) ∧
 ∃ (Z : List Anc × Int × Unit → Prop),
 ∃ (μ : List Anc × Int × Unit → Nat),
 Z ([], (0 : Int), ()) ∧
 ∀ (a : List Anc) (a_1 : Int),
 Z (a, a_1, ()) →
 (decide (a_1 < (2 : Int)) = true →
 (List.length a + List.length [(a_1, x.snd.fst, a_1, ())]) * (24 : Nat) ≤
 (140737488355328 : Nat) ∧
 List.length a + List.length [(a_1, x.snd.fst, a_1, ())] ≤ maxLen ∧
 ((IntKind.wrap IntKind.i64 (a_1 + (1 : Int)) = IntKind.wrap IntKind.i64 (a_1 + (1 : Int)) ∧
 True ∧ x.fst = x.fst ∧ x.snd.fst = x.snd.fst ∧ x.snd.snd.fst = x.snd.snd.fst) ∧
 a ++ [(a_1, x.snd.fst, a_1, ())] = a ++ [(a_1, x.snd.fst, a_1, ())] ∧ True) ∧
 Z (a ++ [(a_1, x.snd.fst, a_1, ())], IntKind.wrap IntKind.i64 (a_1 + (1 : Int)), ()) ∧
 μ (a ++ [(a_1, x.snd.fst, a_1, ())], IntKind.wrap IntKind.i64 (a_1 + (1 : Int)), ()) <
 μ (a, a_1, ())) ∧
 (decide (a_1 < (2 : Int)) = false →
 List.length a ≤ maxLen ∧
 (List.length (allA (newA x.fst a).fst) ≤ (10000 : Nat) ∧
 (0 : Int) ≤ lenA (newA x.fst a).fst ∧
 lenA (newA x.fst a).fst ≤ (1099511627776 : Int) ∧
 List.length x.snd.snd.fst ≤ (1000 : Nat)) ∧
 (((newA x.fst a).snd.fst != (0 : Int)) = true →
 List.length a ≤ (10000 : Nat) ∧
 List.length a ≤ maxLen ∧
 (Ty.beq t4 ((newA x.fst a).snd.fst != (0 : Int)) (wrongA x.fst a != (0 : Int)) =
 true →
 True ∧ true = true) ∧
 (Ty.beq t4 ((newA x.fst a).snd.fst != (0 : Int)) (wrongA x.fst a != (0 : Int)) =
 false →
 false = true)) ∧
 (((newA x.fst a).snd.fst != (0 : Int)) = false →
 (((shiftA (newA x.fst a).fst x.snd.snd.fst).snd.fst != (0 : Int)) = true →
 List.length a ≤ (10000 : Nat) ∧
 List.length a ≤ maxLen ∧
 (Ty.beq t4 ((newA x.fst a).snd.fst != (0 : Int)) (wrongA x.fst a != (0 : Int)) =
 true →
 True ∧ true = true) ∧
 (Ty.beq t4 ((newA x.fst a).snd.fst != (0 : Int))
 (wrongA x.fst a != (0 : Int)) =
 false →
 false = true)) ∧
 (((shiftA (newA x.fst a).fst x.snd.snd.fst).snd.fst != (0 : Int)) = false →
 ((0 : Int) = (0 : Int) ∧
 x.snd.fst = x.snd.fst ∧
 x.snd.snd.fst = x.snd.snd.fst ∧
 a = a ∧
 (shiftA (newA x.fst a).fst x.snd.snd.fst).fst =
 (shiftA (newA x.fst a).fst x.snd.snd.fst).fst ∧
 x.snd.snd.fst = x.snd.snd.fst ∧
 (↑(List.length x.snd.snd.fst) : Int) =
 (↑(List.length x.snd.snd.fst) : Int)) ∧
 ∃ (Z : Int × Unit → Prop),
 ∃ (μ : Int × Unit → Nat),
 Z ((0 : Int), ()) ∧
 ∀ (a_6 : Int),
 Z (a_6, ()) →
 (decide (a_6 < (↑(List.length x.snd.snd.fst) : Int)) = true →
 ((0 : Int) ≤ a_6 ∧ a_6 < (↑(List.length x.snd.snd.fst) : Int)) ∧
 (decide
 (x.snd.fst ≥
 (List.getD x.snd.snd.fst (Int.toNat a_6)
 (Ty.dflt t51)).fst.fst) =
 true →
 (decide
 (x.snd.fst ≤
 (List.getD x.snd.snd.fst (Int.toNat a_6)
 (Ty.dflt t51)).fst.snd.fst) =
 true →
 True ∧ true = true) ∧
 (decide
 (x.snd.fst ≤
 (List.getD x.snd.snd.fst (Int.toNat a_6)
 (Ty.dflt t51)).fst.snd.fst) =
 false →
 (IntKind.wrap IntKind.i64 (a_6 + (1 : Int)) =
 IntKind.wrap IntKind.i64 (a_6 + (1 : Int)) ∧
 x.snd.fst = x.snd.fst ∧
 x.snd.snd.fst = x.snd.snd.fst ∧
 a = a ∧
 (shiftA (newA x.fst a).fst x.snd.snd.fst).fst =
 (shiftA (newA x.fst a).fst
 x.snd.snd.fst).fst ∧
 x.snd.snd.fst = x.snd.snd.fst ∧
 (↑(List.length x.snd.snd.fst) : Int) =
 (↑(List.length x.snd.snd.fst) : Int)) ∧
 Z (IntKind.wrap IntKind.i64 (a_6 + (1 : Int)), ()) ∧
 μ (IntKind.wrap IntKind.i64 (a_6 + (1 : Int)), ()) <
 μ (a_6, ()))) ∧
 (decide
 (x.snd.fst ≥
 (List.getD x.snd.snd.fst (Int.toNat a_6)
 (Ty.dflt t51)).fst.fst) =
 false →
 (IntKind.wrap IntKind.i64 (a_6 + (1 : Int)) =
 IntKind.wrap IntKind.i64 (a_6 + (1 : Int)) ∧
 x.snd.fst = x.snd.fst ∧
 x.snd.snd.fst = x.snd.snd.fst ∧
 a = a ∧
 (shiftA (newA x.fst a).fst x.snd.snd.fst).fst =
 (shiftA (newA x.fst a).fst x.snd.snd.fst).fst ∧
 x.snd.snd.fst = x.snd.snd.fst ∧
 (↑(List.length x.snd.snd.fst) : Int) =
 (↑(List.length x.snd.snd.fst) : Int)) ∧
 Z (IntKind.wrap IntKind.i64 (a_6 + (1 : Int)), ()) ∧
 μ (IntKind.wrap IntKind.i64 (a_6 + (1 : Int)), ()) <
 μ (a_6, ()))) ∧
 (decide (a_6 < (↑(List.length x.snd.snd.fst) : Int)) = false →
 List.length x.snd.snd.fst ≤ (1000000000 : Nat) ∧
 (List.length
 (allA (shiftA (newA x.fst a).fst x.snd.snd.fst).fst) ≤
 (10000 : Nat) ∧
 (0 : Int) ≤
 lenA (shiftA (newA x.fst a).fst x.snd.snd.fst).fst ∧
 lenA (shiftA (newA x.fst a).fst x.snd.snd.fst).fst ≤
 (1099511627776 : Int) ∧
 List.length (invert x.snd.snd.fst) ≤ (1000 : Nat)) ∧
 (((shiftA (shiftA (newA x.fst a).fst x.snd.snd.fst).fst
 (invert x.snd.snd.fst)).snd.fst ==
 (0 : Int)) =
 true →
 (Option.isSome
 (shiftA
 (shiftA (newA x.fst a).fst x.snd.snd.fst).fst
 (invert x.snd.snd.fst)).fst =
 true →
 List.length
 (allA
 (shiftA
 (shiftA (newA x.fst a).fst
 x.snd.snd.fst).fst
 (invert x.snd.snd.fst)).fst) ≤
 (10000 : Nat) ∧
 List.length a ≤ (10000 : Nat) ∧
 (List.length
 (allA
 (shiftA
 (shiftA (newA x.fst a).fst
 x.snd.snd.fst).fst
 (invert x.snd.snd.fst)).fst) ≤
 (10000 : Nat) ∧
 List.length a ≤ maxLen) ∧
 (decide
 (allA
 (shiftA
 (shiftA (newA x.fst a).fst
 x.snd.snd.fst).fst
 (invert x.snd.snd.fst)).fst =
 a) =
 true →
 True ∧ true = true) ∧
 (decide
 (allA
 (shiftA
 (shiftA (newA x.fst a).fst
 x.snd.snd.fst).fst
 (invert x.snd.snd.fst)).fst =
 a) =
 false →
 false = true)) ∧
 (Option.isSome
 (shiftA
 (shiftA (newA x.fst a).fst x.snd.snd.fst).fst
 (invert x.snd.snd.fst)).fst =
 false →
 false = true)) ∧
 (((shiftA (shiftA (newA x.fst a).fst x.snd.snd.fst).fst
 (invert x.snd.snd.fst)).snd.fst ==
 (0 : Int)) =
 false →
 false = true))))))
theorem vcEq7 : fnVC E7 Try.f7 (bodyOf Try.f7) cAnchorBack = vc7 := by kernel_rfl
/- fn 8 -/
def hs8 : List (Nat × Nat × Hint) := []
def nm8 : List Nat := [3000000023]
noncomputable def E8 : Env := env tab [(9, cNew), (17, cShift), (13, cGet), (16, cBetween)] [] noGl hs8 nm8
def vc8 : Prop :=
 ∀ (x : Unit),
 True →
 List.length [((1 : Int), (2 : Int), (1 : Int), ()), ((2 : Int), (2 : Int), (0 : Int), ())] ≤ maxLen ∧
 (List.length
 (allA
 (newA (5 : Int) [((1 : Int), (2 : Int), (1 : Int), ()), ((2 : Int), (2 : Int), (0 : Int), ())]).fst) ≤
 (10000 : Nat) ∧
 (0 : Int) ≤
 lenA (newA (5 : Int) [((1 : Int), (2 : Int), (1 : Int), ()), ((2 : Int), (2 : Int), (0 : Int), ())]).fst ∧
 lenA (newA (5 : Int) [((1 : Int), (2 : Int), (1 : Int), ()), ((2 : Int), (2 : Int), (0 : Int), ())]).fst ≤
 (1099511627776 : Int) ∧
 List.length [(((2 : Int), (2 : Int), ()), ((2 : Int), (4 : Int), ()), ())] ≤ (1000 : Nat)) ∧
 True ∧
 True ∧
 (((newA (5 : Int) [((1 : Int), (2 : Int), (1 : Int), ()), ((2 : Int), (2 : Int), (0 : Int), ())]).snd.fst ==
 (0 : Int)) =
 true →
 (((shiftA
 (newA (5 : Int)
 [((1 : Int), (2 : Int), (1 : Int), ()), ((2 : Int), (2 : Int), (0 : Int), ())]).fst
 [(((2 : Int), (2 : Int), ()), ((2 : Int), (4 : Int), ()), ())]).snd.fst ==
 (0 : Int)) =
 true →
 (((getA
 (shiftA
 (newA (5 : Int)
 [((1 : Int), (2 : Int), (1 : Int), ()),
 ((2 : Int), (2 : Int), (0 : Int), ())]).fst
 [(((2 : Int), (2 : Int), ()), ((2 : Int), (4 : Int), ()), ())]).fst
 (1 : Int)).snd.fst ==
 (0 : Int)) =
 true →
 (((getA
 (shiftA
 (newA (5 : Int)
 [((1 : Int), (2 : Int), (1 : Int), ()),
 ((2 : Int), (2 : Int), (0 : Int), ())]).fst
 [(((2 : Int), (2 : Int), ()), ((2 : Int), (4 : Int), ()), ())]).fst
 (2 : Int)).snd.fst ==
 (0 : Int)) =
 true →
 (((getA
 (shiftA
 (newA (5 : Int)
 [((1 : Int), (2 : Int), (1 : Int), ()),
 ((2 : Int), (2 : Int), (0 : Int), ())]).fst
 [(((2 : Int), (2 : Int), ()), ((2 : Int), (4 : Int), ()), ())]).fst
 (1 : Int)).fst.snd.fst ==
 (4 : Int)) =
 true →
 (((getA
 (shiftA
 (newA (5 : Int)
 [((1 : Int), (2 : Int), (1 : Int), ()),
 ((2 : Int), (2 : Int), (0 : Int), ())]).fst
 [(((2 : Int), (2 : Int), ()), ((2 : Int), (4 : Int), ()), ())]).fst
 (2 : Int)).fst.snd.fst ==
 (2 : Int)) =
 true →
 List.length
 (allA
 (newA (5 : Int)
 [((1 : Int), (2 : Int), (1 : Int), ()),
 ((2 : Int), (2 : Int), (0 : Int), ())]).fst) ≤
 (10000 : Nat) ∧
 ((↑(List.length
 (List.filter (inA (2 : Int) (2 : Int))
 (allA
 (newA (5 : Int)
 [((1 : Int), (2 : Int), (1 : Int), ()),
 ((2 : Int), (2 : Int), (0 : Int), ())]).fst))) :
 Int) ==
 (2 : Int)) =
 true) ∧
 (((getA
 (shiftA
 (newA (5 : Int)
 [((1 : Int), (2 : Int), (1 : Int), ()),
 ((2 : Int), (2 : Int), (0 : Int), ())]).fst
 [(((2 : Int), (2 : Int), ()), ((2 : Int), (4 : Int), ()), ())]).fst
 (2 : Int)).fst.snd.fst ==
 (2 : Int)) =
 false →
 false = true)) ∧
 (((getA
 (shiftA
 (newA (5 : Int)
 [((1 : Int), (2 : Int), (1 : Int), ()),
 ((2 : Int), (2 : Int), (0 : Int), ())]).fst
 [(((2 : Int), (2 : Int), ()), ((2 : Int), (4 : Int), ()), ())]).fst
 (1 : Int)).fst.snd.fst ==
 (4 : Int)) =
 false →
 false = true)) ∧
 (((getA
 (shiftA
 (newA (5 : Int)
 [((1 : Int), (2 : Int), (1 : Int), ()),
 ((2 : Int), (2 : Int), (0 : Int), ())]).fst
 [(((2 : Int), (2 : Int), ()), ((2 : Int), (4 : Int), ()), ())]).fst
 (2 : Int)).snd.fst ==
 (0 : Int)) =
 false →
 false = true)) ∧
 (((getA
 (shiftA
 (newA (5 : Int)
 [((1 : Int), (2 : Int), (1 : Int), ()),
 ((2 : Int), (2 : Int), (0 : Int), ())]).fst
 [(((2 : Int), (2 : Int), ()), ((2 : Int), (4 : Int), ()), ())]).fst
 (1 : Int)).snd.fst ==
 (0 : Int)) =
 false →
 false = true)) ∧
 (((shiftA
 (newA (5 : Int)
 [((1 : Int), (2 : Int), (1 : Int), ()), ((2 : Int), (2 : Int), (0 : Int), ())]).fst
 [(((2 : Int), (2 : Int), ()), ((2 : Int), (4 : Int), ()), ())]).snd.fst ==
 (0 : Int)) =
 false →
 false = true)) ∧
 (((newA (5 : Int)
 [((1 : Int), (2 : Int), (1 : Int), ()), ((2 : Int), (2 : Int), (0 : Int), ())]).snd.fst ==
 (0 : Int)) =
 false →
 false = true)
theorem vcEq8 : fnVC E8 Try.f8 (bodyOf Try.f8) cBoth = vc8 := by kernel_rfl
end Go.Fr.C11
