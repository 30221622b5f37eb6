/-
  Conditions to be proved, function by function, printed by a program. Conditions: none.
-/
import Derived.Test.YthfkodcgkhcioaaC19A
namespace Go.Fr.C19
open Go Go.Fr Go.Proofs
set_option maxRecDepth 100000

/- fn 3 -/
def hs3 : List (Nat × Nat × Hint) := []
def nm3 : List Nat := []
noncomputable def E3 : Env := env tab [(10, cRight), (11, cTwo), (12, cTakes), (13, cTakes), (14, cIndent), (15, cIndent)] [] noGl hs3 nm3
def vc3 : Prop :=
 ∀ (x : List (Int × Int × Int × Int × Unit) × Int × Unit),
 List.length x.fst ≤ maxLen →
 List.length x.fst ≤ maxLen ∧
 ((!right x.fst) = true → True ∧ true = true) ∧
 ((!right x.fst) = false →
 okL x.fst ∧
 okL x.fst ∧
 (((↑(takes x.fst x.snd.fst) : Int) == (↑(takes x.fst x.snd.fst) : Int)) = true →
 okL x.fst ∧
 okL x.fst ∧
 ((indent x.fst == indent x.fst) = true → True ∧ true = true) ∧
 ((indent x.fst == indent x.fst) = false → false = true)) ∧
 (((↑(takes x.fst x.snd.fst) : Int) == (↑(takes x.fst x.snd.fst) : Int)) = false → false = true))
theorem vcEq3 : fnVC E3 Try.f3 (bodyOf Try.f3) cBreaksTakes = vc3 := by kernel_rfl
/- fn 4 -/
def hs4 : List (Nat × Nat × Hint) := []
def nm4 : List Nat := []
noncomputable def E4 : Env := env tab [(10, cRight), (11, cTwo), (17, cAll), (18, cRAll), (16, cInts)] [] noGl hs4 nm4
def vc4 : Prop :=
 ∀ (x : List (Int × Int × Int × Int × Unit) × (Int × Int × Unit) × Unit),
 List.length x.fst ≤ maxLen →
 List.length x.fst ≤ maxLen ∧
 ((!right x.fst) = true → True ∧ true = true) ∧
 ((!right x.fst) = false →
 ((0 : Int) ≤ (0 : Int) ∧ (0 : Int) < (↑(2 : Nat) : Int)) ∧
 ((0 : Int) ≤ (1 : Int) ∧ (1 : Int) < (↑(2 : Nat) : Int)) ∧
 okL x.fst ∧
 okL x.fst ∧
 (List.length (allR x.fst x.snd.fst.fst x.snd.fst.snd.fst) ≤ maxLen ∧
 List.length (allR x.fst x.snd.fst.fst x.snd.fst.snd.fst) ≤ maxLen) ∧
 (decide (allR x.fst x.snd.fst.fst x.snd.fst.snd.fst = allR x.fst x.snd.fst.fst x.snd.fst.snd.fst) =
 true →
 True ∧ true = true) ∧
 (decide
 (allR x.fst x.snd.fst.fst x.snd.fst.snd.fst = allR x.fst x.snd.fst.fst x.snd.fst.snd.fst) =
 false →
 false = true))
theorem vcEq4 : fnVC E4 Try.f4 (bodyOf Try.f4) cBreaksAll = vc4 := by kernel_rfl
/- fn 5 -/
def hs5 : List (Nat × Nat × Hint) := [(0, 6, ⟨[.slot 5 t3, .slot 21 t3], [0, 6, 19, 20], [], []⟩)]
def nm5 : List Nat := []
noncomputable def E5 : Env := env tab [(10, cRight), (11, cTwo), (17, cAll)] [] noGl hs5 nm5
def vc5 : Prop :=
 ∀ (x : List (Int × Int × Int × Int × Unit) × (Int × Int × Unit) × Unit),
 List.length x.fst ≤ maxLen →
 List.length x.fst ≤ maxLen ∧
 ((!right x.fst) = true → True ∧ true = true) ∧
 ((!right x.fst) = false →
 ((0 : Int) ≤ (0 : Int) ∧ (0 : Int) < (↑(2 : Nat) : Int)) ∧
 ((0 : Int) ≤ (1 : Int) ∧ (1 : Int) < (↑(2 : Nat) : Int)) ∧
 okL x.fst ∧
 ((0 : Int) = (0 : Int) ∧
 (0 : Int) = (0 : Int) ∧
 x.fst = x.fst ∧
 allR x.fst x.snd.fst.fst x.snd.fst.snd.fst = allR x.fst x.snd.fst.fst x.snd.fst.snd.fst ∧
 allR x.fst x.snd.fst.fst x.snd.fst.snd.fst = allR x.fst x.snd.fst.fst x.snd.fst.snd.fst ∧
 (↑(List.length (allR x.fst x.snd.fst.fst x.snd.fst.snd.fst)) : Int) =
 (↑(List.length (allR x.fst x.snd.fst.fst x.snd.fst.snd.fst)) : Int)) ∧
 ∃ (Z : Int × Int × Unit → Prop),
 ∃ (μ : Int × Int × Unit → Nat),
 Z ((0 : Int), (0 : Int), ()) ∧
 ∀ (a a_1 : Int),
 Z (a, a_1, ()) →
 (decide (a_1 < (↑(List.length (allR x.fst x.snd.fst.fst x.snd.fst.snd.fst)) : Int)) = true →
 ((0 : Int) ≤ a_1 ∧
 a_1 < (↑(List.length (allR x.fst x.snd.fst.fst x.snd.fst.snd.fst)) : Int)) ∧
 (decide
 (List.getD (allR x.fst x.snd.fst.fst x.snd.fst.snd.fst) (Int.toNat a_1)
 (Ty.dflt t3) <
 (1 : Int)) =
 true →
 (decide ((↑(List.length x.fst) : Int) > (0 : Int)) = true → false = true) ∧
 (decide ((↑(List.length x.fst) : Int) > (0 : Int)) = false →
 (IntKind.wrap IntKind.i64 (a_1 + (1 : Int)) =
 IntKind.wrap IntKind.i64 (a_1 + (1 : Int)) ∧
 IntKind.wrap IntKind.i64
 (a +
 List.getD (allR x.fst x.snd.fst.fst x.snd.fst.snd.fst)
 (Int.toNat a_1) (Ty.dflt t3)) =
 IntKind.wrap IntKind.i64
 (a +
 List.getD (allR x.fst x.snd.fst.fst x.snd.fst.snd.fst)
 (Int.toNat a_1) (Ty.dflt t3)) ∧
 x.fst = x.fst ∧
 allR x.fst x.snd.fst.fst x.snd.fst.snd.fst =
 allR x.fst x.snd.fst.fst x.snd.fst.snd.fst ∧
 allR x.fst x.snd.fst.fst x.snd.fst.snd.fst =
 allR x.fst x.snd.fst.fst x.snd.fst.snd.fst ∧
 (↑(List.length (allR x.fst x.snd.fst.fst x.snd.fst.snd.fst)) :
 Int) =
 (↑(List.length (allR x.fst x.snd.fst.fst x.snd.fst.snd.fst)) :
 Int)) ∧
 Z
 (IntKind.wrap IntKind.i64
 (a +
 List.getD (allR x.fst x.snd.fst.fst x.snd.fst.snd.fst)
 (Int.toNat a_1) (Ty.dflt t3)),
 IntKind.wrap IntKind.i64 (a_1 + (1 : Int)), ()) ∧
 μ
 (IntKind.wrap IntKind.i64
 (a +
 List.getD (allR x.fst x.snd.fst.fst x.snd.fst.snd.fst)
 (Int.toNat a_1) (Ty.dflt t3)),
 IntKind.wrap IntKind.i64 (a_1 + (1 : Int)), ()) <
 μ (a, a_1, ()))) ∧
 (decide
 (List.getD (allR x.fst x.snd.fst.fst x.snd.fst.snd.fst) (Int.toNat a_1)
 (Ty.dflt t3) <
 (1 : Int)) =
 false →
 (IntKind.wrap IntKind.i64 (a_1 + (1 : Int)) =
 IntKind.wrap IntKind.i64 (a_1 + (1 : Int)) ∧
 IntKind.wrap IntKind.i64
 (a +
 List.getD (allR x.fst x.snd.fst.fst x.snd.fst.snd.fst) (Int.toNat a_1)
 (Ty.dflt t3)) =
 IntKind.wrap IntKind.i64
 (a +
 List.getD (allR x.fst x.snd.fst.fst x.snd.fst.snd.fst) (Int.toNat a_1)
 (Ty.dflt t3)) ∧
 x.fst = x.fst ∧
 allR x.fst x.snd.fst.fst x.snd.fst.snd.fst =
 allR x.fst x.snd.fst.fst x.snd.fst.snd.fst ∧
 allR x.fst x.snd.fst.fst x.snd.fst.snd.fst =
 allR x.fst x.snd.fst.fst x.snd.fst.snd.fst ∧
 (↑(List.length (allR x.fst x.snd.fst.fst x.snd.fst.snd.fst)) : Int) =
 (↑(List.length (allR x.fst x.snd.fst.fst x.snd.fst.snd.fst)) :
 Int)) ∧
 Z
 (IntKind.wrap IntKind.i64
 (a +
 List.getD (allR x.fst x.snd.fst.fst x.snd.fst.snd.fst) (Int.toNat a_1)
 (Ty.dflt t3)),
 IntKind.wrap IntKind.i64 (a_1 + (1 : Int)), ()) ∧
 μ
 (IntKind.wrap IntKind.i64
 (a +
 List.getD (allR x.fst x.snd.fst.fst x.snd.fst.snd.fst)
 (Int.toNat a_1) (Ty.dflt t3)),
 IntKind.wrap IntKind.i64 (a_1 + (1 : Int)), ()) <
 μ (a, a_1, ()))) ∧
 (decide (a_1 < (↑(List.length (allR x.fst x.snd.fst.fst x.snd.fst.snd.fst)) : Int)) =
 false →
 ((a == (↑(List.length x.fst) : Int)) = true →
 (decide ((↑(List.length x.fst) : Int) > (0 : Int)) = true → True ∧ true = true) ∧
 (decide ((↑(List.length x.fst) : Int) > (0 : Int)) = false →
 (((↑(List.length (allR x.fst x.snd.fst.fst x.snd.fst.snd.fst)) : Int) ==
 (1 : Int)) =
 true →
 True ∧ true = true) ∧
 (((↑(List.length (allR x.fst x.snd.fst.fst x.snd.fst.snd.fst)) : Int) ==
 (1 : Int)) =
 false →
 false = true))) ∧
 ((a == (↑(List.length x.fst) : Int)) = false → false = true)))
theorem vcEq5 : fnVC E5 Try.f5 (bodyOf Try.f5) cBreaksWhole = vc5 := by kernel_rfl
/- fn 6 -/
def hs6 : List (Nat × Nat × Hint) := [(0, 5, ⟨[.slot 5 t3, .slot 23 t3], [0, 3, 21, 22], [3], []⟩),
  (0, 14, ⟨[.slot 9 t3, .slot 51 t3], [0, 3, 5, 7, 8, 21, 22, 23, 49, 50], [3], []⟩)]
def nm6 : List Nat := []
noncomputable def E6 : Env := env tab [(10, cRight), (11, cTwo), (17, cAll), (19, cWidth)] [] noGl hs6 nm6
def vc6 : Prop :=
 ∀ (x : List (Int × Int × Int × Int × Unit) × (Int × Int × Unit) × Unit),
 List.length x.fst ≤ maxLen →
 List.length x.fst ≤ maxLen ∧
 ((!right x.fst) = true → True ∧ true = true) ∧
 ((!right x.fst) = false →
 ((0 : Int) ≤ (0 : Int) ∧ (0 : Int) < (↑(2 : Nat) : Int)) ∧
 ((0 : Int) ≤ (1 : Int) ∧ (1 : Int) < (↑(2 : Nat) : Int)) ∧
 okL x.fst ∧
 (((0 : Int) = (0 : Int) ∧
 (0 : Int) = (0 : Int) ∧
 x.fst = x.fst ∧
 True ∧
 allR x.fst x.snd.fst.fst x.snd.fst.snd.fst = allR x.fst x.snd.fst.fst x.snd.fst.snd.fst ∧
 (↑(List.length (allR x.fst x.snd.fst.fst x.snd.fst.snd.fst)) : Int) =
 (↑(List.length (allR x.fst x.snd.fst.fst x.snd.fst.snd.fst)) : Int)) ∧
 x.snd.fst.fst = x.snd.fst.fst ∧ x.snd.fst.snd.fst = x.snd.fst.snd.fst) ∧
 ∃ (Z : Int × Int × Unit → Prop),
 ∃ (μ : Int × Int × Unit → Nat),
 Z ((0 : Int), (0 : Int), ()) ∧
 ∀ (a a_1 : Int),
 Z (a, a_1, ()) →
 (decide (a_1 < (↑(List.length (allR x.fst x.snd.fst.fst x.snd.fst.snd.fst)) : Int)) = true →
 ((0 : Int) ≤ a_1 ∧
 a_1 < (↑(List.length (allR x.fst x.snd.fst.fst x.snd.fst.snd.fst)) : Int)) ∧
 (decide
 (List.getD (allR x.fst x.snd.fst.fst x.snd.fst.snd.fst) (Int.toNat a_1)
 (Ty.dflt t3) <
 (0 : Int)) =
 true →
 false = true) ∧
 (decide
 (List.getD (allR x.fst x.snd.fst.fst x.snd.fst.snd.fst) (Int.toNat a_1)
 (Ty.dflt t3) <
 (0 : Int)) =
 false →
 (decide
 (List.getD (allR x.fst x.snd.fst.fst x.snd.fst.snd.fst) (Int.toNat a_1)
 (Ty.dflt t3) >
 IntKind.wrap IntKind.i64 ((↑(List.length x.fst) : Int) - a)) =
 true →
 false = true) ∧
 (decide
 (List.getD (allR x.fst x.snd.fst.fst x.snd.fst.snd.fst) (Int.toNat a_1)
 (Ty.dflt t3) >
 IntKind.wrap IntKind.i64 ((↑(List.length x.fst) : Int) - a)) =
 false →
 ((0 : Int) ≤ (1 : Int) ∧ (1 : Int) < (↑(2 : Nat) : Int)) ∧
 ((a_1 == (0 : Int)) = true →
 ((0 : Int) ≤ (0 : Int) ∧ (0 : Int) < (↑(2 : Nat) : Int)) ∧
 ((0 : Int) ≤ a ∧
 a ≤
 IntKind.wrap IntKind.i64
 (a +
 List.getD (allR x.fst x.snd.fst.fst x.snd.fst.snd.fst)
 (Int.toNat a_1) (Ty.dflt t3)) ∧
 IntKind.wrap IntKind.i64
 (a +
 List.getD (allR x.fst x.snd.fst.fst x.snd.fst.snd.fst)
 (Int.toNat a_1) (Ty.dflt t3)) ≤
 (↑(List.length x.fst) : Int)) ∧
 (((0 : Int) = (0 : Int) ∧
 (0 : Int) = (0 : Int) ∧
 x.fst = x.fst ∧
 True ∧
 a = a ∧
 List.getD (allR x.fst x.snd.fst.fst x.snd.fst.snd.fst)
 (Int.toNat a_1) (Ty.dflt t3) =
 List.getD
 (allR x.fst x.snd.fst.fst x.snd.fst.snd.fst)
 (Int.toNat a_1) (Ty.dflt t3) ∧
 x.snd.fst.fst = x.snd.fst.fst ∧
 allR x.fst x.snd.fst.fst x.snd.fst.snd.fst =
 allR x.fst x.snd.fst.fst x.snd.fst.snd.fst ∧
 (↑(List.length
 (allR x.fst x.snd.fst.fst
 x.snd.fst.snd.fst)) :
 Int) =
 (↑(List.length
 (allR x.fst x.snd.fst.fst
 x.snd.fst.snd.fst)) :
 Int) ∧
 a_1 = a_1 ∧
 List.drop (Int.toNat a)
 (List.take
 (Int.toNat
 (IntKind.wrap IntKind.i64
 (a +
 List.getD
 (allR x.fst x.snd.fst.fst
 x.snd.fst.snd.fst)
 (Int.toNat a_1)
 (Ty.dflt t3))))
 x.fst) =
 List.drop (Int.toNat a)
 (List.take
 (Int.toNat
 (IntKind.wrap IntKind.i64
 (a +
 List.getD
 (allR x.fst x.snd.fst.fst
 x.snd.fst.snd.fst)
 (Int.toNat a_1)
 (Ty.dflt t3))))
 x.fst) ∧
 (↑(List.length
 (List.drop (Int.toNat a)
 (List.take
 (Int.toNat
 (IntKind.wrap IntKind.i64
 (a +
 List.getD
 (allR x.fst
 x.snd.fst.fst
 x.snd.fst.snd.fst)
 (Int.toNat a_1)
 (Ty.dflt t3))))
 x.fst))) :
 Int) =
 (↑(List.length
 (List.drop (Int.toNat a)
 (List.take
 (Int.toNat
 (IntKind.wrap IntKind.i64
 (a +
 List.getD
 (allR x.fst
 x.snd.fst.fst
 x.snd.fst.snd.fst)
 (Int.toNat a_1)
 (Ty.dflt t3))))
 x.fst))) :
 Int)) ∧
 x.snd.fst.fst = x.snd.fst.fst ∧
 x.snd.fst.snd.fst = x.snd.fst.snd.fst) ∧
 ∃ (Z_1 : Int × Int × Unit → Prop),
 ∃ (μ_1 : Int × Int × Unit → Nat),
 Z_1 ((0 : Int), (0 : Int), ()) ∧
 ∀ (a_7 a_8 : Int),
 Z_1 (a_7, a_8, ()) →
 (decide
 (a_8 <
 (↑(List.length
 (List.drop (Int.toNat a)
 (List.take
 (Int.toNat
 (IntKind.wrap IntKind.i64
 (a +
 List.getD
 (allR x.fst x.snd.fst.fst
 x.snd.fst.snd.fst)
 (Int.toNat a_1)
 (Ty.dflt t3))))
 x.fst))) :
 Int)) =
 true →
 ((0 : Int) ≤ a_8 ∧
 a_8 <
 (↑(List.length
 (List.drop (Int.toNat a)
 (List.take
 (Int.toNat
 (IntKind.wrap IntKind.i64
 (a +
 List.getD
 (allR x.fst x.snd.fst.fst
 x.snd.fst.snd.fst)
 (Int.toNat a_1)
 (Ty.dflt t3))))
 x.fst))) :
 Int)) ∧
 (decide
 ((List.getD
 (List.drop (Int.toNat a)
 (List.take
 (Int.toNat
 (IntKind.wrap IntKind.i64
 (a +
 List.getD
 (allR x.fst
 x.snd.fst.fst
 x.snd.fst.snd.fst)
 (Int.toNat a_1)
 (Ty.dflt t3))))
 x.fst))
 (Int.toNat a_8)
 (Ty.dflt t35)).snd.snd.fst >
 (0 : Int)) =
 true →
 ((IntKind.wrap IntKind.i64 (a_8 + (1 : Int)) =
 IntKind.wrap IntKind.i64
 (a_8 + (1 : Int)) ∧
 IntKind.wrap IntKind.i64
 (a_7 + (1 : Int)) =
 IntKind.wrap IntKind.i64
 (a_7 + (1 : Int)) ∧
 x.fst = x.fst ∧
 True ∧
 a = a ∧
 List.getD
 (allR x.fst x.snd.fst.fst
 x.snd.fst.snd.fst)
 (Int.toNat a_1)
 (Ty.dflt t3) =
 List.getD
 (allR x.fst x.snd.fst.fst
 x.snd.fst.snd.fst)
 (Int.toNat a_1)
 (Ty.dflt t3) ∧
 x.snd.fst.fst =
 x.snd.fst.fst ∧
 allR x.fst x.snd.fst.fst
 x.snd.fst.snd.fst =
 allR x.fst x.snd.fst.fst
 x.snd.fst.snd.fst ∧
 (↑(List.length
 (allR x.fst
 x.snd.fst.fst
 x.snd.fst.snd.fst)) :
 Int) =
 (↑(List.length
 (allR x.fst
 x.snd.fst.fst
 x.snd.fst.snd.fst)) :
 Int) ∧
 a_1 = a_1 ∧
 List.drop
 (Int.toNat a)
 (List.take
 (Int.toNat
 (IntKind.wrap
 IntKind.i64
 (a +
 List.getD
 (allR
 x.fst
 x.snd.fst.fst
 x.snd.fst.snd.fst)
 (Int.toNat
 a_1)
 (Ty.dflt
 t3))))
 x.fst) =
 List.drop
 (Int.toNat a)
 (List.take
 (Int.toNat
 (IntKind.wrap
 IntKind.i64
 (a +
 List.getD
 (allR
 x.fst
 x.snd.fst.fst
 x.snd.fst.snd.fst)
 (Int.toNat
 a_1)
 (Ty.dflt
 t3))))
 x.fst) ∧
 (↑(List.length
 (List.drop
 (Int.toNat
 a)
 (List.take
 (Int.toNat
 (IntKind.wrap
 IntKind.i64
 (a +
 List.getD
 (allR
 x.fst
 x.snd.fst.fst
 x.snd.fst.snd.fst)
 (Int.toNat
 a_1)
 (Ty.dflt
 t3))))
 x.fst))) :
 Int) =
 (↑(List.length
 (List.drop
 (Int.toNat
 a)
 (List.take
 (Int.toNat
 (IntKind.wrap
 IntKind.i64
 (a +
 List.getD
 (allR
 x.fst
 x.snd.fst.fst
 x.snd.fst.snd.fst)
 (Int.toNat
 a_1)
 (Ty.dflt
 t3))))
 x.fst))) :
 Int)) ∧
 x.snd.fst.fst = x.snd.fst.fst ∧
 x.snd.fst.snd.fst = x.snd.fst.snd.fst) ∧
 Z_1
 (IntKind.wrap IntKind.i64
 (a_7 + (1 : Int)),
 IntKind.wrap IntKind.i64
 (a_8 + (1 : Int)),
 ()) ∧
 μ_1
 (IntKind.wrap IntKind.i64
 (a_7 + (1 : Int)),
 IntKind.wrap IntKind.i64
 (a_8 + (1 : Int)),
 ()) <
 μ_1 (a_7, a_8, ())) ∧
 (decide
 ((List.getD
 (List.drop (Int.toNat a)
 (List.take
 (Int.toNat
 (IntKind.wrap IntKind.i64
 (a +
 List.getD
 (allR x.fst
 x.snd.fst.fst
 x.snd.fst.snd.fst)
 (Int.toNat a_1)
 (Ty.dflt t3))))
 x.fst))
 (Int.toNat a_8)
 (Ty.dflt t35)).snd.snd.fst >
 (0 : Int)) =
 false →
 ((IntKind.wrap IntKind.i64 (a_8 + (1 : Int)) =
 IntKind.wrap IntKind.i64
 (a_8 + (1 : Int)) ∧
 a_7 = a_7 ∧
 x.fst = x.fst ∧
 True ∧
 a = a ∧
 List.getD
 (allR x.fst x.snd.fst.fst
 x.snd.fst.snd.fst)
 (Int.toNat a_1)
 (Ty.dflt t3) =
 List.getD
 (allR x.fst x.snd.fst.fst
 x.snd.fst.snd.fst)
 (Int.toNat a_1)
 (Ty.dflt t3) ∧
 x.snd.fst.fst =
 x.snd.fst.fst ∧
 allR x.fst x.snd.fst.fst
 x.snd.fst.snd.fst =
 allR x.fst x.snd.fst.fst
 x.snd.fst.snd.fst ∧
 (↑(List.length
 (allR x.fst
 x.snd.fst.fst
 x.snd.fst.snd.fst)) :
 Int) =
 (↑(List.length
 (allR x.fst
 x.snd.fst.fst
 x.snd.fst.snd.fst)) :
 Int) ∧
 a_1 = a_1 ∧
 List.drop
 (Int.toNat a)
 (List.take
 (Int.toNat
 (IntKind.wrap
 IntKind.i64
 (a +
 List.getD
 (allR
 x.fst
 x.snd.fst.fst
 x.snd.fst.snd.fst)
 (Int.toNat
 a_1)
 (Ty.dflt
 t3))))
 x.fst) =
 List.drop
 (Int.toNat a)
 (List.take
 (Int.toNat
 (IntKind.wrap
 IntKind.i64
 (a +
 List.getD
 (allR
 x.fst
 x.snd.fst.fst
 x.snd.fst.snd.fst)
 (Int.toNat
 a_1)
 (Ty.dflt
 t3))))
 x.fst) ∧
 (↑(List.length
 (List.drop
 (Int.toNat
 a)
 (List.take
 (Int.toNat
 (IntKind.wrap
 IntKind.i64
 (a +
 List.getD
 (allR
 x.fst
 x.snd.fst.fst
 x.snd.fst.snd.fst)
 (Int.toNat
 a_1)
 (Ty.dflt
 t3))))
 x.fst))) :
 Int) =
 (↑(List.length
 (List.drop
 (Int.toNat
 a)
 (List.take
 (Int.toNat
 (IntKind.wrap
 IntKind.i64
 (a +
 List.getD
 (allR
 x.fst
 x.snd.fst.fst
 x.snd.fst.snd.fst)
 (Int.toNat
 a_1)
 (Ty.dflt
 t3))))
 x.fst))) :
 Int)) ∧
 x.snd.fst.fst = x.snd.fst.fst ∧
 x.snd.fst.snd.fst = x.snd.fst.snd.fst) ∧
 Z_1
 (a_7,
 IntKind.wrap IntKind.i64
 (a_8 + (1 : Int)),
 ()) ∧
 μ_1
 (a_7,
 IntKind.wrap IntKind.i64
 (a_8 + (1 : Int)),
 ()) <
 μ_1 (a_7, a_8, ()))) ∧
 (decide
 (a_8 <
 (↑(List.length
 (List.drop (Int.toNat a)
 (List.take
 (Int.toNat
 (IntKind.wrap IntKind.i64
 (a +
 List.getD
 (allR x.fst x.snd.fst.fst
 x.snd.fst.snd.fst)
 (Int.toNat a_1)
 (Ty.dflt t3))))
 x.fst))) :
 Int)) =
 false →
 (decide (a_7 > (1 : Int)) = true →
 ((0 : Int) ≤ a ∧
 a ≤
 IntKind.wrap IntKind.i64
 (a +
 List.getD
 (allR x.fst x.snd.fst.fst
 x.snd.fst.snd.fst)
 (Int.toNat a_1) (Ty.dflt t3)) ∧
 IntKind.wrap IntKind.i64
 (a +
 List.getD
 (allR x.fst x.snd.fst.fst
 x.snd.fst.snd.fst)
 (Int.toNat a_1) (Ty.dflt t3)) ≤
 (↑(List.length x.fst) : Int)) ∧
 okL
 (List.drop (Int.toNat a)
 (List.take
 (Int.toNat
 (IntKind.wrap IntKind.i64
 (a +
 List.getD
 (allR x.fst x.snd.fst.fst
 x.snd.fst.snd.fst)
 (Int.toNat a_1)
 (Ty.dflt t3))))
 x.fst)) ∧
 (decide
 (width
 (List.drop (Int.toNat a)
 (List.take
 (Int.toNat
 (IntKind.wrap IntKind.i64
 (a +
 List.getD
 (allR x.fst
 x.snd.fst.fst
 x.snd.fst.snd.fst)
 (Int.toNat a_1)
 (Ty.dflt t3))))
 x.fst)) >
 x.snd.fst.fst) =
 true →
 false = true) ∧
 (decide
 (width
 (List.drop (Int.toNat a)
 (List.take
 (Int.toNat
 (IntKind.wrap IntKind.i64
 (a +
 List.getD
 (allR x.fst
 x.snd.fst.fst
 x.snd.fst.snd.fst)
 (Int.toNat a_1)
 (Ty.dflt t3))))
 x.fst)) >
 x.snd.fst.fst) =
 false →
 ((IntKind.wrap IntKind.i64
 (a_1 + (1 : Int)) =
 IntKind.wrap IntKind.i64
 (a_1 + (1 : Int)) ∧
 IntKind.wrap IntKind.i64
 (a +
 List.getD
 (allR x.fst
 x.snd.fst.fst
 x.snd.fst.snd.fst)
 (Int.toNat a_1)
 (Ty.dflt t3)) =
 IntKind.wrap IntKind.i64
 (a +
 List.getD
 (allR x.fst
 x.snd.fst.fst
 x.snd.fst.snd.fst)
 (Int.toNat a_1)
 (Ty.dflt t3)) ∧
 x.fst = x.fst ∧
 True ∧
 allR x.fst x.snd.fst.fst
 x.snd.fst.snd.fst =
 allR x.fst x.snd.fst.fst
 x.snd.fst.snd.fst ∧
 (↑(List.length
 (allR x.fst
 x.snd.fst.fst
 x.snd.fst.snd.fst)) :
 Int) =
 (↑(List.length
 (allR x.fst
 x.snd.fst.fst
 x.snd.fst.snd.fst)) :
 Int)) ∧
 x.snd.fst.fst = x.snd.fst.fst ∧
 x.snd.fst.snd.fst =
 x.snd.fst.snd.fst) ∧
 Z
 (IntKind.wrap IntKind.i64
 (a +
 List.getD
 (allR x.fst x.snd.fst.fst
 x.snd.fst.snd.fst)
 (Int.toNat a_1)
 (Ty.dflt t3)),
 IntKind.wrap IntKind.i64
 (a_1 + (1 : Int)),
 ()) ∧
 μ
 (IntKind.wrap IntKind.i64
 (a +
 List.getD
 (allR x.fst
 x.snd.fst.fst
 x.snd.fst.snd.fst)
 (Int.toNat a_1)
 (Ty.dflt t3)),
 IntKind.wrap IntKind.i64
 (a_1 + (1 : Int)),
 ()) <
 μ (a, a_1, ()))) ∧
 (decide (a_7 > (1 : Int)) = false →
 ((IntKind.wrap IntKind.i64 (a_1 + (1 : Int)) =
 IntKind.wrap IntKind.i64
 (a_1 + (1 : Int)) ∧
 IntKind.wrap IntKind.i64
 (a +
 List.getD
 (allR x.fst x.snd.fst.fst
 x.snd.fst.snd.fst)
 (Int.toNat a_1) (Ty.dflt t3)) =
 IntKind.wrap IntKind.i64
 (a +
 List.getD
 (allR x.fst x.snd.fst.fst
 x.snd.fst.snd.fst)
 (Int.toNat a_1) (Ty.dflt t3)) ∧
 x.fst = x.fst ∧
 True ∧
 allR x.fst x.snd.fst.fst
 x.snd.fst.snd.fst =
 allR x.fst x.snd.fst.fst
 x.snd.fst.snd.fst ∧
 (↑(List.length
 (allR x.fst x.snd.fst.fst
 x.snd.fst.snd.fst)) :
 Int) =
 (↑(List.length
 (allR x.fst x.snd.fst.fst
 x.snd.fst.snd.fst)) :
 Int)) ∧
 x.snd.fst.fst = x.snd.fst.fst ∧
 x.snd.fst.snd.fst = x.snd.fst.snd.fst) ∧
 Z
 (IntKind.wrap IntKind.i64
 (a +
 List.getD
 (allR x.fst x.snd.fst.fst
 x.snd.fst.snd.fst)
 (Int.toNat a_1) (Ty.dflt t3)),
 IntKind.wrap IntKind.i64
 (a_1 + (1 : Int)),
 ()) ∧
 μ
 (IntKind.wrap IntKind.i64
 (a +
 List.getD
 (allR x.fst x.snd.fst.fst
 x.snd.fst.snd.fst)
 (Int.toNat a_1) (Ty.dflt t3)),
 IntKind.wrap IntKind.i64
 (a_1 + (1 : Int)),
 ()) <
 μ (a, a_1, ())))) ∧
 ((a_1 == (0 : Int)) = false →
 ((0 : Int) ≤ a ∧
 a ≤
 IntKind.wrap IntKind.i64
 (a +
 List.getD (allR x.fst x.snd.fst.fst x.snd.fst.snd.fst)
 (Int.toNat a_1) (Ty.dflt t3)) ∧
 IntKind.wrap IntKind.i64
 (a +
 List.getD (allR x.fst x.snd.fst.fst x.snd.fst.snd.fst)
 (Int.toNat a_1) (Ty.dflt t3)) ≤
 (↑(List.length x.fst) : Int)) ∧
 (((0 : Int) = (0 : Int) ∧
 (0 : Int) = (0 : Int) ∧
 x.fst = x.fst ∧
 True ∧
 a = a ∧
 List.getD (allR x.fst x.snd.fst.fst x.snd.fst.snd.fst)
 (Int.toNat a_1) (Ty.dflt t3) =
 List.getD
 (allR x.fst x.snd.fst.fst x.snd.fst.snd.fst)
 (Int.toNat a_1) (Ty.dflt t3) ∧
 x.snd.fst.snd.fst = x.snd.fst.snd.fst ∧
 allR x.fst x.snd.fst.fst x.snd.fst.snd.fst =
 allR x.fst x.snd.fst.fst x.snd.fst.snd.fst ∧
 (↑(List.length
 (allR x.fst x.snd.fst.fst
 x.snd.fst.snd.fst)) :
 Int) =
 (↑(List.length
 (allR x.fst x.snd.fst.fst
 x.snd.fst.snd.fst)) :
 Int) ∧
 a_1 = a_1 ∧
 List.drop (Int.toNat a)
 (List.take
 (Int.toNat
 (IntKind.wrap IntKind.i64
 (a +
 List.getD
 (allR x.fst x.snd.fst.fst
 x.snd.fst.snd.fst)
 (Int.toNat a_1)
 (Ty.dflt t3))))
 x.fst) =
 List.drop (Int.toNat a)
 (List.take
 (Int.toNat
 (IntKind.wrap IntKind.i64
 (a +
 List.getD
 (allR x.fst x.snd.fst.fst
 x.snd.fst.snd.fst)
 (Int.toNat a_1)
 (Ty.dflt t3))))
 x.fst) ∧
 (↑(List.length
 (List.drop (Int.toNat a)
 (List.take
 (Int.toNat
 (IntKind.wrap IntKind.i64
 (a +
 List.getD
 (allR x.fst
 x.snd.fst.fst
 x.snd.fst.snd.fst)
 (Int.toNat a_1)
 (Ty.dflt t3))))
 x.fst))) :
 Int) =
 (↑(List.length
 (List.drop (Int.toNat a)
 (List.take
 (Int.toNat
 (IntKind.wrap IntKind.i64
 (a +
 List.getD
 (allR x.fst
 x.snd.fst.fst
 x.snd.fst.snd.fst)
 (Int.toNat a_1)
 (Ty.dflt t3))))
 x.fst))) :
 Int)) ∧
 x.snd.fst.fst = x.snd.fst.fst ∧
 x.snd.fst.snd.fst = x.snd.fst.snd.fst) ∧
 ∃ (Z_1 : Int × Int × Unit → Prop),
 ∃ (μ_1 : Int × Int × Unit → Nat),
 Z_1 ((0 : Int), (0 : Int), ()) ∧
 ∀ (a_7 a_8 : Int),
 Z_1 (a_7, a_8, ()) →
 (decide
 (a_8 <
 (↑(List.length
 (List.drop (Int.toNat a)
 (List.take
 (Int.toNat
 (IntKind.wrap IntKind.i64
 (a +
 List.getD
 (allR x.fst x.snd.fst.fst
 x.snd.fst.snd.fst)
 (Int.toNat a_1)
 (Ty.dflt t3))))
 x.fst))) :
 Int)) =
 true →
 ((0 : Int) ≤ a_8 ∧
 a_8 <
 (↑(List.length
 (List.drop (Int.toNat a)
 (List.take
 (Int.toNat
 (IntKind.wrap IntKind.i64
 (a +
 List.getD
 (allR x.fst x.snd.fst.fst
 x.snd.fst.snd.fst)
 (Int.toNat a_1)
 (Ty.dflt t3))))
 x.fst))) :
 Int)) ∧
 (decide
 ((List.getD
 (List.drop (Int.toNat a)
 (List.take
 (Int.toNat
 (IntKind.wrap IntKind.i64
 (a +
 List.getD
 (allR x.fst
 x.snd.fst.fst
 x.snd.fst.snd.fst)
 (Int.toNat a_1)
 (Ty.dflt t3))))
 x.fst))
 (Int.toNat a_8)
 (Ty.dflt t35)).snd.snd.fst >
 (0 : Int)) =
 true →
 ((IntKind.wrap IntKind.i64 (a_8 + (1 : Int)) =
 IntKind.wrap IntKind.i64
 (a_8 + (1 : Int)) ∧
 IntKind.wrap IntKind.i64
 (a_7 + (1 : Int)) =
 IntKind.wrap IntKind.i64
 (a_7 + (1 : Int)) ∧
 x.fst = x.fst ∧
 True ∧
 a = a ∧
 List.getD
 (allR x.fst x.snd.fst.fst
 x.snd.fst.snd.fst)
 (Int.toNat a_1)
 (Ty.dflt t3) =
 List.getD
 (allR x.fst x.snd.fst.fst
 x.snd.fst.snd.fst)
 (Int.toNat a_1)
 (Ty.dflt t3) ∧
 x.snd.fst.snd.fst =
 x.snd.fst.snd.fst ∧
 allR x.fst x.snd.fst.fst
 x.snd.fst.snd.fst =
 allR x.fst x.snd.fst.fst
 x.snd.fst.snd.fst ∧
 (↑(List.length
 (allR x.fst
 x.snd.fst.fst
 x.snd.fst.snd.fst)) :
 Int) =
 (↑(List.length
 (allR x.fst
 x.snd.fst.fst
 x.snd.fst.snd.fst)) :
 Int) ∧
 a_1 = a_1 ∧
 List.drop (Int.toNat a)
 (List.take
 (Int.toNat
 (IntKind.wrap
 IntKind.i64
 (a +
 List.getD
 (allR
 x.fst
 x.snd.fst.fst
 x.snd.fst.snd.fst)
 (Int.toNat
 a_1)
 (Ty.dflt
 t3))))
 x.fst) =
 List.drop
 (Int.toNat a)
 (List.take
 (Int.toNat
 (IntKind.wrap
 IntKind.i64
 (a +
 List.getD
 (allR
 x.fst
 x.snd.fst.fst
 x.snd.fst.snd.fst)
 (Int.toNat
 a_1)
 (Ty.dflt
 t3))))
 x.fst) ∧
 (↑(List.length
 (List.drop
 (Int.toNat
 a)
 (List.take
 (Int.toNat
 (IntKind.wrap
 IntKind.i64
 (a +
 List.getD
 (allR
 x.fst
 x.snd.fst.fst
 x.snd.fst.snd.fst)
 (Int.toNat
 a_1)
 (Ty.dflt
 t3))))
 x.fst))) :
 Int) =
 (↑(List.length
 (List.drop
 (Int.toNat
 a)
 (List.take
 (Int.toNat
 (IntKind.wrap
 IntKind.i64
 (a +
 List.getD
 (allR
 x.fst
 x.snd.fst.fst
 x.snd.fst.snd.fst)
 (Int.toNat
 a_1)
 (Ty.dflt
 t3))))
 x.fst))) :
 Int)) ∧
 x.snd.fst.fst = x.snd.fst.fst ∧
 x.snd.fst.snd.fst = x.snd.fst.snd.fst) ∧
 Z_1
 (IntKind.wrap IntKind.i64
 (a_7 + (1 : Int)),
 IntKind.wrap IntKind.i64
 (a_8 + (1 : Int)),
 ()) ∧
 μ_1
 (IntKind.wrap IntKind.i64
 (a_7 + (1 : Int)),
 IntKind.wrap IntKind.i64
 (a_8 + (1 : Int)),
 ()) <
 μ_1 (a_7, a_8, ())) ∧
 (decide
 ((List.getD
 (List.drop (Int.toNat a)
 (List.take
 (Int.toNat
 (IntKind.wrap IntKind.i64
 (a +
 List.getD
 (allR x.fst
 x.snd.fst.fst
 x.snd.fst.snd.fst)
 (Int.toNat a_1)
 (Ty.dflt t3))))
 x.fst))
 (Int.toNat a_8)
 (Ty.dflt t35)).snd.snd.fst >
 (0 : Int)) =
 false →
 ((IntKind.wrap IntKind.i64 (a_8 + (1 : Int)) =
 IntKind.wrap IntKind.i64
 (a_8 + (1 : Int)) ∧
 a_7 = a_7 ∧
 x.fst = x.fst ∧
 True ∧
 a = a ∧
 List.getD
 (allR x.fst x.snd.fst.fst
 x.snd.fst.snd.fst)
 (Int.toNat a_1)
 (Ty.dflt t3) =
 List.getD
 (allR x.fst x.snd.fst.fst
 x.snd.fst.snd.fst)
 (Int.toNat a_1)
 (Ty.dflt t3) ∧
 x.snd.fst.snd.fst =
 x.snd.fst.snd.fst ∧
 allR x.fst x.snd.fst.fst
 x.snd.fst.snd.fst =
 allR x.fst x.snd.fst.fst
 x.snd.fst.snd.fst ∧
 (↑(List.length
 (allR x.fst
 x.snd.fst.fst
 x.snd.fst.snd.fst)) :
 Int) =
 (↑(List.length
 (allR x.fst
 x.snd.fst.fst
 x.snd.fst.snd.fst)) :
 Int) ∧
 a_1 = a_1 ∧
 List.drop (Int.toNat a)
 (List.take
 (Int.toNat
 (IntKind.wrap
 IntKind.i64
 (a +
 List.getD
 (allR
 x.fst
 x.snd.fst.fst
 x.snd.fst.snd.fst)
 (Int.toNat
 a_1)
 (Ty.dflt
 t3))))
 x.fst) =
 List.drop
 (Int.toNat a)
 (List.take
 (Int.toNat
 (IntKind.wrap
 IntKind.i64
 (a +
 List.getD
 (allR
 x.fst
 x.snd.fst.fst
 x.snd.fst.snd.fst)
 (Int.toNat
 a_1)
 (Ty.dflt
 t3))))
 x.fst) ∧
 (↑(List.length
 (List.drop
 (Int.toNat
 a)
 (List.take
 (Int.toNat
 (IntKind.wrap
 IntKind.i64
 (a +
 List.getD
 (allR
 x.fst
 x.snd.fst.fst
 x.snd.fst.snd.fst)
 (Int.toNat
 a_1)
 (Ty.dflt
 t3))))
 x.fst))) :
 Int) =
 (↑(List.length
 (List.drop
 (Int.toNat
 a)
 (List.take
 (Int.toNat
 (IntKind.wrap
 IntKind.i64
 (a +
 List.getD
 (allR
 x.fst
 x.snd.fst.fst
 x.snd.fst.snd.fst)
 (Int.toNat
 a_1)
 (Ty.dflt
 t3))))
 x.fst))) :
 Int)) ∧
 x.snd.fst.fst = x.snd.fst.fst ∧
 x.snd.fst.snd.fst = x.snd.fst.snd.fst) ∧
 Z_1
 (a_7,
 IntKind.wrap IntKind.i64
 (a_8 + (1 : Int)),
 ()) ∧
 μ_1
 (a_7,
 IntKind.wrap IntKind.i64
 (a_8 + (1 : Int)),
 ()) <
 μ_1 (a_7, a_8, ()))) ∧
 (decide
 (a_8 <
 (↑(List.length
 (List.drop (Int.toNat a)
 (List.take
 (Int.toNat
 (IntKind.wrap IntKind.i64
 (a +
 List.getD
 (allR x.fst x.snd.fst.fst
 x.snd.fst.snd.fst)
 (Int.toNat a_1)
 (Ty.dflt t3))))
 x.fst))) :
 Int)) =
 false →
 (decide (a_7 > (1 : Int)) = true →
 ((0 : Int) ≤ a ∧
 a ≤
 IntKind.wrap IntKind.i64
 (a +
 List.getD
 (allR x.fst x.snd.fst.fst
 x.snd.fst.snd.fst)
 (Int.toNat a_1) (Ty.dflt t3)) ∧
 IntKind.wrap IntKind.i64
 (a +
 List.getD
 (allR x.fst x.snd.fst.fst
 x.snd.fst.snd.fst)
 (Int.toNat a_1) (Ty.dflt t3)) ≤
 (↑(List.length x.fst) : Int)) ∧
 okL
 (List.drop (Int.toNat a)
 (List.take
 (Int.toNat
 (IntKind.wrap IntKind.i64
 (a +
 List.getD
 (allR x.fst x.snd.fst.fst
 x.snd.fst.snd.fst)
 (Int.toNat a_1) (Ty.dflt t3))))
 x.fst)) ∧
 (decide
 (width
 (List.drop (Int.toNat a)
 (List.take
 (Int.toNat
 (IntKind.wrap IntKind.i64
 (a +
 List.getD
 (allR x.fst
 x.snd.fst.fst
 x.snd.fst.snd.fst)
 (Int.toNat a_1)
 (Ty.dflt t3))))
 x.fst)) >
 x.snd.fst.snd.fst) =
 true →
 false = true) ∧
 (decide
 (width
 (List.drop (Int.toNat a)
 (List.take
 (Int.toNat
 (IntKind.wrap IntKind.i64
 (a +
 List.getD
 (allR x.fst
 x.snd.fst.fst
 x.snd.fst.snd.fst)
 (Int.toNat a_1)
 (Ty.dflt t3))))
 x.fst)) >
 x.snd.fst.snd.fst) =
 false →
 ((IntKind.wrap IntKind.i64
 (a_1 + (1 : Int)) =
 IntKind.wrap IntKind.i64
 (a_1 + (1 : Int)) ∧
 IntKind.wrap IntKind.i64
 (a +
 List.getD
 (allR x.fst x.snd.fst.fst
 x.snd.fst.snd.fst)
 (Int.toNat a_1)
 (Ty.dflt t3)) =
 IntKind.wrap IntKind.i64
 (a +
 List.getD
 (allR x.fst x.snd.fst.fst
 x.snd.fst.snd.fst)
 (Int.toNat a_1)
 (Ty.dflt t3)) ∧
 x.fst = x.fst ∧
 True ∧
 allR x.fst x.snd.fst.fst
 x.snd.fst.snd.fst =
 allR x.fst x.snd.fst.fst
 x.snd.fst.snd.fst ∧
 (↑(List.length
 (allR x.fst
 x.snd.fst.fst
 x.snd.fst.snd.fst)) :
 Int) =
 (↑(List.length
 (allR x.fst
 x.snd.fst.fst
 x.snd.fst.snd.fst)) :
 Int)) ∧
 x.snd.fst.fst = x.snd.fst.fst ∧
 x.snd.fst.snd.fst =
 x.snd.fst.snd.fst) ∧
 Z
 (IntKind.wrap IntKind.i64
 (a +
 List.getD
 (allR x.fst x.snd.fst.fst
 x.snd.fst.snd.fst)
 (Int.toNat a_1)
 (Ty.dflt t3)),
 IntKind.wrap IntKind.i64
 (a_1 + (1 : Int)),
 ()) ∧
 μ
 (IntKind.wrap IntKind.i64
 (a +
 List.getD
 (allR x.fst x.snd.fst.fst
 x.snd.fst.snd.fst)
 (Int.toNat a_1)
 (Ty.dflt t3)),
 IntKind.wrap IntKind.i64
 (a_1 + (1 : Int)),
 ()) <
 μ (a, a_1, ()))) ∧
 (decide (a_7 > (1 : Int)) = false →
 ((IntKind.wrap IntKind.i64 (a_1 + (1 : Int)) =
 IntKind.wrap IntKind.i64
 (a_1 + (1 : Int)) ∧
 IntKind.wrap IntKind.i64
 (a +
 List.getD
 (allR x.fst x.snd.fst.fst
 x.snd.fst.snd.fst)
 (Int.toNat a_1) (Ty.dflt t3)) =
 IntKind.wrap IntKind.i64
 (a +
 List.getD
 (allR x.fst x.snd.fst.fst
 x.snd.fst.snd.fst)
 (Int.toNat a_1) (Ty.dflt t3)) ∧
 x.fst = x.fst ∧
 True ∧
 allR x.fst x.snd.fst.fst
 x.snd.fst.snd.fst =
 allR x.fst x.snd.fst.fst
 x.snd.fst.snd.fst ∧
 (↑(List.length
 (allR x.fst x.snd.fst.fst
 x.snd.fst.snd.fst)) :
 Int) =
 (↑(List.length
 (allR x.fst x.snd.fst.fst
 x.snd.fst.snd.fst)) :
 Int)) ∧
 x.snd.fst.fst = x.snd.fst.fst ∧
 x.snd.fst.snd.fst = x.snd.fst.snd.fst) ∧
 Z
 (IntKind.wrap IntKind.i64
 (a +
 List.getD
 (allR x.fst x.snd.fst.fst
 x.snd.fst.snd.fst)
 (Int.toNat a_1) (Ty.dflt t3)),
 IntKind.wrap IntKind.i64
 (a_1 + (1 : Int)),
 ()) ∧
 μ
 (IntKind.wrap IntKind.i64
 (a +
 List.getD
 (allR x.fst x.snd.fst.fst
 x.snd.fst.snd.fst)
 (Int.toNat a_1) (Ty.dflt t3)),
 IntKind.wrap IntKind.i64
 (a_1 + (1 : Int)),
 ()) <
 μ (a, a_1, ()))))))) ∧
 (decide (a_1 < (↑(List.length (allR x.fst x.snd.fst.fst x.snd.fst.snd.fst)) : Int)) =
 false →
 True ∧ true = true))
theorem vcEq6 : fnVC E6 Try.f6 (bodyOf Try.f6) cBreaksFit = vc6 := by kernel_rfl
/- fn 7 -/
def hs7 : List (Nat × Nat × Hint) := [(0, 9, ⟨[.slot 6 t3], [0, 1, 5], [], []⟩)]
def nm7 : List Nat := []
noncomputable def E7 : Env := env tab [(10, cRight), (11, cTwo), (12, cTakes), (20, cBoundary), (19, cWidth)] [] noGl hs7 nm7
def vc7 : Prop :=
 ∀ (x : List (Int × Int × Int × Int × Unit) × Int × Unit),
 List.length x.fst ≤ maxLen →
 List.length x.fst ≤ maxLen ∧
 ((!right x.fst) = true → True ∧ true = true) ∧
 ((!right x.fst) = false →
 (((↑(List.length x.fst) : Int) == (0 : Int)) = true → True ∧ true = true) ∧
 (((↑(List.length x.fst) : Int) == (0 : Int)) = false →
 okL x.fst ∧
 (decide ((↑(takes x.fst x.snd.fst) : Int) < (1 : Int)) = true → false = true) ∧
 (decide ((↑(takes x.fst x.snd.fst) : Int) < (1 : Int)) = false →
 (decide ((↑(takes x.fst x.snd.fst) : Int) > (↑(List.length x.fst) : Int)) = true → false = true) ∧
 (decide ((↑(takes x.fst x.snd.fst) : Int) > (↑(List.length x.fst) : Int)) = false →
 (((↑(takes x.fst x.snd.fst) : Int) == (↑(List.length x.fst) : Int)) = true →
 True ∧ true = true) ∧
 (((↑(takes x.fst x.snd.fst) : Int) == (↑(List.length x.fst) : Int)) = false →
 okL x.fst ∧
 (bound x.fst (↑(takes x.fst x.snd.fst) : Int) = true → True ∧ true = true) ∧
 (bound x.fst (↑(takes x.fst x.snd.fst) : Int) = false →
 ((1 : Int) = (1 : Int) ∧
 x.fst = x.fst ∧
 x.snd.fst = x.snd.fst ∧
 (↑(takes x.fst x.snd.fst) : Int) = (↑(takes x.fst x.snd.fst) : Int)) ∧
 ∃ (Z : Int × Unit → Prop),
 ∃ (μ : Int × Unit → Nat),
 Z ((1 : Int), ()) ∧
 ∀ (a : Int),
 Z (a, ()) →
 (decide (a < (↑(takes x.fst x.snd.fst) : Int)) = true →
 okL x.fst ∧
 (bound x.fst a = true → false = true) ∧
 (bound x.fst a = false →
 (IntKind.wrap IntKind.i64 (a + (1 : Int)) =
 IntKind.wrap IntKind.i64 (a + (1 : Int)) ∧
 x.fst = x.fst ∧
 x.snd.fst = x.snd.fst ∧
 (↑(takes x.fst x.snd.fst) : Int) =
 (↑(takes x.fst x.snd.fst) : Int)) ∧
 Z (IntKind.wrap IntKind.i64 (a + (1 : Int)), ()) ∧
 μ (IntKind.wrap IntKind.i64 (a + (1 : Int)), ()) <
 μ (a, ()))) ∧
 (decide (a < (↑(takes x.fst x.snd.fst) : Int)) = false →
 ((0 : Int) ≤
 IntKind.wrap IntKind.i64
 ((↑(takes x.fst x.snd.fst) : Int) + (1 : Int)) ∧
 IntKind.wrap IntKind.i64
 ((↑(takes x.fst x.snd.fst) : Int) + (1 : Int)) ≤
 (↑(List.length x.fst) : Int)) ∧
 okL
 (List.take
 (Int.toNat
 (IntKind.wrap IntKind.i64
 ((↑(takes x.fst x.snd.fst) : Int) + (1 : Int))))
 x.fst) ∧
 (decide
 (width
 (List.take
 (Int.toNat
 (IntKind.wrap IntKind.i64
 ((↑(takes x.fst x.snd.fst) : Int) + (1 : Int))))
 x.fst) >
 x.snd.fst) =
 true →
 True ∧ true = true) ∧
 (decide
 (width
 (List.take
 (Int.toNat
 (IntKind.wrap IntKind.i64
 ((↑(takes x.fst x.snd.fst) : Int) + (1 : Int))))
 x.fst) >
 x.snd.fst) =
 false →
 false = true))))))))
theorem vcEq7 : fnVC E7 Try.f7 (bodyOf Try.f7) cBreaksWords = vc7 := by kernel_rfl
/- fn 8 -/
def hs8 : List (Nat × Nat × Hint) := []
def nm8 : List Nat := []
noncomputable def E8 : Env := env tab [(10, cRight), (11, cTwo), (12, cTakes)] [] noGl hs8 nm8
def vc8 : Prop :=
 ∀ (x : List (Int × Int × Int × Int × Unit) × Int × Int × Unit),
 List.length x.fst ≤ maxLen ∧
 ((-9223372036854775808 : Ty.den t3) ≤ x.snd.fst ∧ x.snd.fst ≤ (9223372036854775807 : Ty.den t3)) ∧
 (-9223372036854775808 : Ty.den t3) ≤ x.snd.snd.fst ∧ x.snd.snd.fst ≤ (9223372036854775807 : Ty.den t3) →
 List.length x.fst ≤ maxLen ∧
 ((!right x.fst) = true → True ∧ true = true) ∧
 ((!right x.fst) = false →
 (decide (x.snd.fst < (-10 : Int)) = true → True ∧ true = true) ∧
 (decide (x.snd.fst < (-10 : Int)) = false →
 (decide (x.snd.fst > (1000 : Int)) = true → True ∧ true = true) ∧
 (decide (x.snd.fst > (1000 : Int)) = false →
 (decide (x.snd.snd.fst < (0 : Int)) = true → True ∧ true = true) ∧
 (decide (x.snd.snd.fst < (0 : Int)) = false →
 (decide (x.snd.snd.fst > (1000 : Int)) = true → True ∧ true = true) ∧
 (decide (x.snd.snd.fst > (1000 : Int)) = false →
 okL x.fst ∧
 okL x.fst ∧
 (decide
 ((↑(takes x.fst x.snd.fst) : Int) ≤
 (↑(takes x.fst (IntKind.wrap IntKind.i64 (x.snd.fst + x.snd.snd.fst))) : Int)) =
 true →
 True ∧ true = true) ∧
 (decide
 ((↑(takes x.fst x.snd.fst) : Int) ≤
 (↑(takes x.fst (IntKind.wrap IntKind.i64 (x.snd.fst + x.snd.snd.fst))) : Int)) =
 false →
 false = true))))))
theorem vcEq8 : fnVC E8 Try.f8 (bodyOf Try.f8) cBreaksMore = vc8 := by kernel_rfl
/- fn 9 -/
def hs9 : List (Nat × Nat × Hint) := []
def nm9 : List Nat := []
noncomputable def E9 : Env := env tab [(12, cTakes), (14, cIndent), (17, cAll), (16, cInts), (11, cTwo)] [] noGl hs9 nm9
def vc9 : Prop :=
 ∀ (x : (Int × Int × Unit) × Unit),
 True →
 ((0 : Int) ≤ (0 : Int) ∧ (0 : Int) < (↑(2 : Nat) : Int)) ∧
 okL [] ∧
 (((↑(takes [] x.fst.fst) : Int) == (0 : Int)) = true →
 okL [] ∧
 ((indent [] == (0 : Int)) = true →
 ((0 : Int) ≤ (0 : Int) ∧ (0 : Int) < (↑(2 : Nat) : Int)) ∧
 ((0 : Int) ≤ (1 : Int) ∧ (1 : Int) < (↑(2 : Nat) : Int)) ∧
 okL [] ∧
 (List.length (allR [] x.fst.fst x.fst.snd.fst) ≤ maxLen ∧ List.length [(0 : Int)] ≤ maxLen) ∧
 (decide (allR [] x.fst.fst x.fst.snd.fst = [(0 : Int)]) = true → True ∧ true = true) ∧
 (decide (allR [] x.fst.fst x.fst.snd.fst = [(0 : Int)]) = false → false = true)) ∧
 ((indent [] == (0 : Int)) = false → false = true)) ∧
 (((↑(takes [] x.fst.fst) : Int) == (0 : Int)) = false → false = true)
theorem vcEq9 : fnVC E9 Try.f9 (bodyOf Try.f9) cBreaksNone = vc9 := by kernel_rfl
/- fn 10 -/
def hs10 : List (Nat × Nat × Hint) := [(0, 4, ⟨[.slot 10 t3], [8, 9], [], []⟩)]
def nm10 : List Nat := []
noncomputable def E10 : Env := env tab [] [] noGl hs10 nm10
def vc10 : Prop :=
 ∀ (x : List (Int × Int × Int × Int × Unit) × Unit),
 List.length x.fst ≤ maxLen →
 (decide ((↑(List.length x.fst) : Int) > (200 : Int)) = true → false = right x.fst) ∧
 (decide ((↑(List.length x.fst) : Int) > (200 : Int)) = false →
 ((0 : Int) = (0 : Int) ∧ x.fst = x.fst ∧ (↑(List.length x.fst) : Int) = (↑(List.length x.fst) : Int)) ∧
 ∃ (Z : Int × Unit → Prop),
 ∃ (μ : Int × Unit → Nat),
 Z ((0 : Int), ()) ∧
 ∀ (a : Int),
 Z (a, ()) →
 (decide (a < (↑(List.length x.fst) : Int)) = true →
 ((0 : Int) ≤ a ∧ a < (↑(List.length x.fst) : Int)) ∧
 (decide ((List.getD x.fst (Int.toNat a) (Ty.dflt t35)).snd.snd.fst < (0 : Int)) = true →
 false = right x.fst) ∧
 (decide ((List.getD x.fst (Int.toNat a) (Ty.dflt t35)).snd.snd.fst < (0 : Int)) = false →
 (decide ((List.getD x.fst (Int.toNat a) (Ty.dflt t35)).snd.snd.fst > (2 : Int)) = true →
 false = right x.fst) ∧
 (decide ((List.getD x.fst (Int.toNat a) (Ty.dflt t35)).snd.snd.fst > (2 : Int)) =
 false →
 (IntKind.wrap IntKind.i64 (a + (1 : Int)) = IntKind.wrap IntKind.i64 (a + (1 : Int)) ∧
 x.fst = x.fst ∧ (↑(List.length x.fst) : Int) = (↑(List.length x.fst) : Int)) ∧
 Z (IntKind.wrap IntKind.i64 (a + (1 : Int)), ()) ∧
 μ (IntKind.wrap IntKind.i64 (a + (1 : Int)), ()) < μ (a, ())))) ∧
 (decide (a < (↑(List.length x.fst) : Int)) = false → true = right x.fst))
theorem vcEq10 : fnVC E10 Try.f10 (bodyOf Try.f10) cRight = vc10 := by kernel_rfl
/- fn 11 -/
def hs11 : List (Nat × Nat × Hint) := []
def nm11 : List Nat := []
noncomputable def E11 : Env := env tab [(12, cTakes), (17, cAll), (16, cInts), (14, cIndent)] [] noGl hs11 nm11
def vc11 : Prop :=
 ∀ (x : Unit),
 True →
 okL
 [((97 : Int), (0 : Int), (1 : Int), (0 : Int), ()), ((98 : Int), (0 : Int), (1 : Int), (0 : Int), ()),
 ((32 : Int), (0 : Int), (1 : Int), (0 : Int), ()), ((99 : Int), (0 : Int), (1 : Int), (0 : Int), ()),
 ((100 : Int), (0 : Int), (1 : Int), (0 : Int), ())] ∧
 (((↑(takes
 [((97 : Int), (0 : Int), (1 : Int), (0 : Int), ()),
 ((98 : Int), (0 : Int), (1 : Int), (0 : Int), ()),
 ((32 : Int), (0 : Int), (1 : Int), (0 : Int), ()),
 ((99 : Int), (0 : Int), (1 : Int), (0 : Int), ()),
 ((100 : Int), (0 : Int), (1 : Int), (0 : Int), ())]
 (4 : Int)) :
 Int) ==
 (3 : Int)) =
 true →
 okL
 [((97 : Int), (0 : Int), (1 : Int), (0 : Int), ()), ((98 : Int), (0 : Int), (1 : Int), (0 : Int), ()),
 ((32 : Int), (0 : Int), (1 : Int), (0 : Int), ()), ((99 : Int), (0 : Int), (1 : Int), (0 : Int), ()),
 ((100 : Int), (0 : Int), (1 : Int), (0 : Int), ())] ∧
 (List.length
 (allR
 [((97 : Int), (0 : Int), (1 : Int), (0 : Int), ()),
 ((98 : Int), (0 : Int), (1 : Int), (0 : Int), ()),
 ((32 : Int), (0 : Int), (1 : Int), (0 : Int), ()),
 ((99 : Int), (0 : Int), (1 : Int), (0 : Int), ()),
 ((100 : Int), (0 : Int), (1 : Int), (0 : Int), ())]
 (4 : Int) (4 : Int)) ≤
 maxLen ∧
 List.length [(3 : Int), (2 : Int)] ≤ maxLen) ∧
 (decide
 (allR
 [((97 : Int), (0 : Int), (1 : Int), (0 : Int), ()),
 ((98 : Int), (0 : Int), (1 : Int), (0 : Int), ()),
 ((32 : Int), (0 : Int), (1 : Int), (0 : Int), ()),
 ((99 : Int), (0 : Int), (1 : Int), (0 : Int), ()),
 ((100 : Int), (0 : Int), (1 : Int), (0 : Int), ())]
 (4 : Int) (4 : Int) =
 [(3 : Int), (2 : Int)]) =
 true →
 ((0 : Int) ≤ (2 : Int) ∧
 (2 : Int) ≤
 (↑(List.length
 [((97 : Int), (0 : Int), (1 : Int), (0 : Int), ()),
 ((98 : Int), (0 : Int), (1 : Int), (0 : Int), ()),
 ((32 : Int), (0 : Int), (1 : Int), (0 : Int), ()),
 ((99 : Int), (0 : Int), (1 : Int), (0 : Int), ()),
 ((100 : Int), (0 : Int), (1 : Int), (0 : Int), ())]) :
 Int)) ∧
 okL
 (List.drop (Int.toNat (2 : Int))
 [((97 : Int), (0 : Int), (1 : Int), (0 : Int), ()),
 ((98 : Int), (0 : Int), (1 : Int), (0 : Int), ()),
 ((32 : Int), (0 : Int), (1 : Int), (0 : Int), ()),
 ((99 : Int), (0 : Int), (1 : Int), (0 : Int), ()),
 ((100 : Int), (0 : Int), (1 : Int), (0 : Int), ())]) ∧
 (indent
 (List.drop (Int.toNat (2 : Int))
 [((97 : Int), (0 : Int), (1 : Int), (0 : Int), ()),
 ((98 : Int), (0 : Int), (1 : Int), (0 : Int), ()),
 ((32 : Int), (0 : Int), (1 : Int), (0 : Int), ()),
 ((99 : Int), (0 : Int), (1 : Int), (0 : Int), ()),
 ((100 : Int), (0 : Int), (1 : Int), (0 : Int), ())]) ==
 (1 : Int)) =
 true) ∧
 (decide
 (allR
 [((97 : Int), (0 : Int), (1 : Int), (0 : Int), ()),
 ((98 : Int), (0 : Int), (1 : Int), (0 : Int), ()),
 ((32 : Int), (0 : Int), (1 : Int), (0 : Int), ()),
 ((99 : Int), (0 : Int), (1 : Int), (0 : Int), ()),
 ((100 : Int), (0 : Int), (1 : Int), (0 : Int), ())]
 (4 : Int) (4 : Int) =
 [(3 : Int), (2 : Int)]) =
 false →
 false = true)) ∧
 (((↑(takes
 [((97 : Int), (0 : Int), (1 : Int), (0 : Int), ()),
 ((98 : Int), (0 : Int), (1 : Int), (0 : Int), ()),
 ((32 : Int), (0 : Int), (1 : Int), (0 : Int), ()),
 ((99 : Int), (0 : Int), (1 : Int), (0 : Int), ()),
 ((100 : Int), (0 : Int), (1 : Int), (0 : Int), ())]
 (4 : Int)) :
 Int) ==
 (3 : Int)) =
 false →
 false = true)
theorem vcEq11 : fnVC E11 Try.f11 (bodyOf Try.f11) cTwo = vc11 := by kernel_rfl
/- fn 12 -/
def hs12 : List (Nat × Nat × Hint) := [(0, 7, ⟨[.slot 6 t3], [0, 5], [], []⟩)]
def nm12 : List Nat := []
noncomputable def E12 : Env := env tab [(21, cFit), (22, cBoundary)] [] noGl hs12 nm12
def vc12 : Prop :=
 ∀ (x : List (Int × Int × Int × Int × Unit) × Int × Unit),
 okL x.fst →
 (((↑(List.length x.fst) : Int) == (0 : Int)) = true → (0 : Int) = (↑(takes x.fst x.snd.fst) : Int)) ∧
 (((↑(List.length x.fst) : Int) == (0 : Int)) = false →
 okL x.fst ∧
 (((↑(fit x.fst x.snd.fst) : Int) == (↑(List.length x.fst) : Int)) = true →
 (↑(fit x.fst x.snd.fst) : Int) = (↑(takes x.fst x.snd.fst) : Int)) ∧
 (((↑(fit x.fst x.snd.fst) : Int) == (↑(List.length x.fst) : Int)) = false →
 ((↑(fit x.fst x.snd.fst) : Int) = (↑(fit x.fst x.snd.fst) : Int) ∧
 x.fst = x.fst ∧ (↑(fit x.fst x.snd.fst) : Int) = (↑(fit x.fst x.snd.fst) : Int)) ∧
 ∃ (Z : Int × Unit → Prop),
 ∃ (μ : Int × Unit → Nat),
 Z ((↑(fit x.fst x.snd.fst) : Int), ()) ∧
 ∀ (a : Int),
 Z (a, ()) →
 (decide (a > (0 : Int)) = true →
 okL x.fst ∧
 (bound x.fst a = true → a = (↑(takes x.fst x.snd.fst) : Int)) ∧
 (bound x.fst a = false →
 (IntKind.wrap IntKind.i64 (a - (1 : Int)) =
 IntKind.wrap IntKind.i64 (a - (1 : Int)) ∧
 x.fst = x.fst ∧
 (↑(fit x.fst x.snd.fst) : Int) = (↑(fit x.fst x.snd.fst) : Int)) ∧
 Z (IntKind.wrap IntKind.i64 (a - (1 : Int)), ()) ∧
 μ (IntKind.wrap IntKind.i64 (a - (1 : Int)), ()) < μ (a, ()))) ∧
 (decide (a > (0 : Int)) = false →
 (↑(fit x.fst x.snd.fst) : Int) = (↑(takes x.fst x.snd.fst) : Int))))
theorem vcEq12 : fnVC E12 Try.f12 (bodyOf Try.f12) cTakes = vc12 := by kernel_rfl
/- fn 13 -/
def hs13 : List (Nat × Nat × Hint) := [(0, 8, ⟨[.slot 6 t3, .slot 7 t3], [0, 5], [], []⟩)]
def nm13 : List Nat := []
noncomputable def E13 : Env := env tab [(23, cFit), (20, cBoundary)] [] noGl hs13 nm13
def vc13 : Prop :=
 ∀ (x : List (Int × Int × Int × Int × Unit) × Int × Unit),
 okL x.fst →
 (((↑(List.length x.fst) : Int) == (0 : Int)) = true → (0 : Int) = (↑(takes x.fst x.snd.fst) : Int)) ∧
 (((↑(List.length x.fst) : Int) == (0 : Int)) = false →
 okL x.fst ∧
 (((↑(fit x.fst x.snd.fst) : Int) == (↑(List.length x.fst) : Int)) = true →
 (↑(fit x.fst x.snd.fst) : Int) = (↑(takes x.fst x.snd.fst) : Int)) ∧
 (((↑(fit x.fst x.snd.fst) : Int) == (↑(List.length x.fst) : Int)) = false →
 ((1 : Int) = (1 : Int) ∧
 (0 : Int) = (0 : Int) ∧
 x.fst = x.fst ∧ (↑(fit x.fst x.snd.fst) : Int) = (↑(fit x.fst x.snd.fst) : Int)) ∧
 ∃ (Z : Int × Int × Unit → Prop),
 ∃ (μ : Int × Int × Unit → Nat),
 Z ((0 : Int), (1 : Int), ()) ∧
 ∀ (a a_1 : Int),
 Z (a, a_1, ()) →
 (decide (a_1 ≤ (↑(fit x.fst x.snd.fst) : Int)) = true →
 okL x.fst ∧
 (bound x.fst a_1 = true →
 (IntKind.wrap IntKind.i64 (a_1 + (1 : Int)) =
 IntKind.wrap IntKind.i64 (a_1 + (1 : Int)) ∧
 a_1 = a_1 ∧
 x.fst = x.fst ∧
 (↑(fit x.fst x.snd.fst) : Int) = (↑(fit x.fst x.snd.fst) : Int)) ∧
 Z (a_1, IntKind.wrap IntKind.i64 (a_1 + (1 : Int)), ()) ∧
 μ (a_1, IntKind.wrap IntKind.i64 (a_1 + (1 : Int)), ()) < μ (a, a_1, ())) ∧
 (bound x.fst a_1 = false →
 (IntKind.wrap IntKind.i64 (a_1 + (1 : Int)) =
 IntKind.wrap IntKind.i64 (a_1 + (1 : Int)) ∧
 a = a ∧
 x.fst = x.fst ∧
 (↑(fit x.fst x.snd.fst) : Int) = (↑(fit x.fst x.snd.fst) : Int)) ∧
 Z (a, IntKind.wrap IntKind.i64 (a_1 + (1 : Int)), ()) ∧
 μ (a, IntKind.wrap IntKind.i64 (a_1 + (1 : Int)), ()) < μ (a, a_1, ()))) ∧
 (decide (a_1 ≤ (↑(fit x.fst x.snd.fst) : Int)) = false →
 ((a == (0 : Int)) = true →
 (↑(fit x.fst x.snd.fst) : Int) = (↑(takes x.fst x.snd.fst) : Int)) ∧
 ((a == (0 : Int)) = false → a = (↑(takes x.fst x.snd.fst) : Int)))))
theorem vcEq13 : fnVC E13 Try.f13 (bodyOf Try.f13) cTakes = vc13 := by kernel_rfl
/- fn 14 -/
def hs14 : List (Nat × Nat × Hint) := [(0, 3, ⟨[.slot 3 t3, .slot 8 t3], [6, 7], [], []⟩)]
def nm14 : List Nat := []
noncomputable def E14 : Env := env tab [(24, cBlank)] [] noGl hs14 nm14
def vc14 : Prop :=
 ∀ (x : List (Int × Int × Int × Int × Unit) × Unit),
 okL x.fst →
 ((0 : Int) = (0 : Int) ∧
 (0 : Int) = (0 : Int) ∧ x.fst = x.fst ∧ (↑(List.length x.fst) : Int) = (↑(List.length x.fst) : Int)) ∧
 ∃ (Z : Int × Int × Unit → Prop),
 ∃ (μ : Int × Int × Unit → Nat),
 Z ((0 : Int), (0 : Int), ()) ∧
 ∀ (a a_1 : Int),
 Z (a, a_1, ()) →
 (decide (a_1 < (↑(List.length x.fst) : Int)) = true →
 ((0 : Int) ≤ a_1 ∧ a_1 < (↑(List.length x.fst) : Int)) ∧
 True ∧
 ((!blank (List.getD x.fst (Int.toNat a_1) (Ty.dflt t35))) = true →
 (if (8 : Int) < a then (8 : Int) else a) = indent x.fst) ∧
 ((!blank (List.getD x.fst (Int.toNat a_1) (Ty.dflt t35))) = false →
 (decide (a ≥ (8 : Int)) = true → (if (8 : Int) < a then (8 : Int) else a) = indent x.fst) ∧
 (decide (a ≥ (8 : Int)) = false →
 (IntKind.wrap IntKind.i64 (a_1 + (1 : Int)) =
 IntKind.wrap IntKind.i64 (a_1 + (1 : Int)) ∧
 IntKind.wrap IntKind.i64
 (a + (List.getD x.fst (Int.toNat a_1) (Ty.dflt t35)).snd.snd.fst) =
 IntKind.wrap IntKind.i64
 (a + (List.getD x.fst (Int.toNat a_1) (Ty.dflt t35)).snd.snd.fst) ∧
 x.fst = x.fst ∧ (↑(List.length x.fst) : Int) = (↑(List.length x.fst) : Int)) ∧
 Z
 (IntKind.wrap IntKind.i64
 (a + (List.getD x.fst (Int.toNat a_1) (Ty.dflt t35)).snd.snd.fst),
 IntKind.wrap IntKind.i64 (a_1 + (1 : Int)), ()) ∧
 μ
 (IntKind.wrap IntKind.i64
 (a + (List.getD x.fst (Int.toNat a_1) (Ty.dflt t35)).snd.snd.fst),
 IntKind.wrap IntKind.i64 (a_1 + (1 : Int)), ()) <
 μ (a, a_1, ())))) ∧
 (decide (a_1 < (↑(List.length x.fst) : Int)) = false →
 (if (8 : Int) < a then (8 : Int) else a) = indent x.fst)
theorem vcEq14 : fnVC E14 Try.f14 (bodyOf Try.f14) cIndent = vc14 := by kernel_rfl
/- fn 15 -/
def hs15 : List (Nat × Nat × Hint) := [(0, 2, ⟨[.slot 3 t3], [0], [], []⟩)]
def nm15 : List Nat := []
noncomputable def E15 : Env := env tab [(25, cBlank), (19, cWidth)] [] noGl hs15 nm15
def vc15 : Prop :=
 ∀ (x : List (Int × Int × Int × Int × Unit) × Unit),
 okL x.fst →
 ((0 : Int) = (0 : Int) ∧ x.fst = x.fst) ∧
 ∃ (Z : Int × Unit → Prop),
 ∃ (μ : Int × Unit → Nat),
 Z ((0 : Int), ()) ∧
 ∀ (a : Int),
 Z (a, ()) →
 (decide (a < (↑(List.length x.fst) : Int)) = true →
 ((0 : Int) ≤ a ∧ a < (↑(List.length x.fst) : Int)) ∧
 True ∧
 (blank (List.getD x.fst (Int.toNat a) (Ty.dflt t35)) = true →
 (IntKind.wrap IntKind.i64 (a + (1 : Int)) = IntKind.wrap IntKind.i64 (a + (1 : Int)) ∧
 x.fst = x.fst) ∧
 Z (IntKind.wrap IntKind.i64 (a + (1 : Int)), ()) ∧
 μ (IntKind.wrap IntKind.i64 (a + (1 : Int)), ()) < μ (a, ())) ∧
 (blank (List.getD x.fst (Int.toNat a) (Ty.dflt t35)) = false →
 ((0 : Int) ≤ a ∧ a ≤ (↑(List.length x.fst) : Int)) ∧
 okL (List.take (Int.toNat a) x.fst) ∧
 (decide (width (List.take (Int.toNat a) x.fst) > (8 : Int)) = true →
 (8 : Int) = indent x.fst) ∧
 (decide (width (List.take (Int.toNat a) x.fst) > (8 : Int)) = false →
 width (List.take (Int.toNat a) x.fst) = indent x.fst))) ∧
 (decide (a < (↑(List.length x.fst) : Int)) = false →
 ((0 : Int) ≤ a ∧ a ≤ (↑(List.length x.fst) : Int)) ∧
 okL (List.take (Int.toNat a) x.fst) ∧
 (decide (width (List.take (Int.toNat a) x.fst) > (8 : Int)) = true → (8 : Int) = indent x.fst) ∧
 (decide (width (List.take (Int.toNat a) x.fst) > (8 : Int)) = false →
 width (List.take (Int.toNat a) x.fst) = indent x.fst))
theorem vcEq15 : fnVC E15 Try.f15 (bodyOf Try.f15) cIndent = vc15 := by kernel_rfl
/- fn 16 -/
def hs16 : List (Nat × Nat × Hint) := [(0, 2, ⟨[.slot 8 t3], [0, 1, 7], [], []⟩)]
def nm16 : List Nat := []
noncomputable def E16 : Env := env tab [] [] noGl hs16 nm16
def vc16 : Prop :=
 ∀ (x : List Int × List Int × Unit),
 List.length x.fst ≤ maxLen ∧ List.length x.snd.fst ≤ maxLen →
 ((0 : Int) = (0 : Int) ∧
 x.fst = x.fst ∧ x.snd.fst = x.snd.fst ∧ (↑(List.length x.fst) : Int) = (↑(List.length x.fst) : Int)) ∧
 ∃ (Z : Int × Unit → Prop),
 ∃ (μ : Int × Unit → Nat),
 Z ((0 : Int), ()) ∧
 ∀ (a : Int),
 Z (a, ()) →
 (decide (a < (↑(List.length x.fst) : Int)) = true →
 (decide (a ≥ (↑(List.length x.snd.fst) : Int)) = true → false = decide (x.fst = x.snd.fst)) ∧
 (decide (a ≥ (↑(List.length x.snd.fst) : Int)) = false →
 ((0 : Int) ≤ a ∧ a < (↑(List.length x.fst) : Int)) ∧
 ((0 : Int) ≤ a ∧ a < (↑(List.length x.snd.fst) : Int)) ∧
 ((List.getD x.fst (Int.toNat a) (Ty.dflt t3) !=
 List.getD x.snd.fst (Int.toNat a) (Ty.dflt t3)) =
 true →
 false = decide (x.fst = x.snd.fst)) ∧
 ((List.getD x.fst (Int.toNat a) (Ty.dflt t3) !=
 List.getD x.snd.fst (Int.toNat a) (Ty.dflt t3)) =
 false →
 (IntKind.wrap IntKind.i64 (a + (1 : Int)) = IntKind.wrap IntKind.i64 (a + (1 : Int)) ∧
 x.fst = x.fst ∧
 x.snd.fst = x.snd.fst ∧
 (↑(List.length x.fst) : Int) = (↑(List.length x.fst) : Int)) ∧
 Z (IntKind.wrap IntKind.i64 (a + (1 : Int)), ()) ∧
 μ (IntKind.wrap IntKind.i64 (a + (1 : Int)), ()) < μ (a, ())))) ∧
 (decide (a < (↑(List.length x.fst) : Int)) = false →
 ((↑(List.length x.fst) : Int) == (↑(List.length x.snd.fst) : Int)) = decide (x.fst = x.snd.fst))
theorem vcEq16 : fnVC E16 Try.f16 (bodyOf Try.f16) cInts = vc16 := by kernel_rfl
/- fn 18 -/
def hs18 : List (Nat × Nat × Hint) := [(0, 3, ⟨[.rowS 5 900000005 t3 3, .slot 6 t3], [0, 3], [3], []⟩)]
def nm18 : List Nat := [1000000012]
noncomputable def E18 : Env := env tab [(27, cStart), (13, cTakes)] [] noGl hs18 nm18
def vc18 : Prop :=
 ∀ (x : List (Int × Int × Int × Int × Unit) × (Int × Int × Unit) × Unit),
 okL x.fst →
 ((0 : Int) ≤ (0 : Int) ∧ (0 : Int) < (↑(2 : Nat) : Int)) ∧
 okL x.fst ∧
 ((0 : Int) ≤ (0 : Int) ∧ (0 : Int) < (↑(List.length [(↑(start x.fst x.snd.fst.fst) : Int)]) : Int)) ∧
 ((List.getD [(↑(start x.fst x.snd.fst.fst) : Int)] (Int.toNat (0 : Int)) (Ty.dflt t3) =
 List.getD [(↑(start x.fst x.snd.fst.fst) : Int)] (Int.toNat (0 : Int)) (Ty.dflt t3) ∧
 True ∧ x.fst = x.fst ∧ True) ∧
 (x.snd.fst.fst = x.snd.fst.fst ∧ x.snd.fst.snd.fst = x.snd.fst.snd.fst) ∧
 [(↑(start x.fst x.snd.fst.fst) : Int)] = [(↑(start x.fst x.snd.fst.fst) : Int)] ∧ True) ∧
 ∃ (Z : List Int × Int × Unit → Prop),
 ∃ (μ : List Int × Int × Unit → Nat),
 Z
 ([(↑(start x.fst x.snd.fst.fst) : Int)],
 List.getD [(↑(start x.fst x.snd.fst.fst) : Int)] (Int.toNat (0 : Int)) (Ty.dflt t3), ()) ∧
 ∀ (a : List Int) (a_1 : Int),
 Z (a, a_1, ()) →
 (decide (a_1 < (↑(List.length x.fst) : Int)) = true →
 ((0 : Int) ≤ a_1 ∧ a_1 ≤ (↑(List.length x.fst) : Int)) ∧
 ((0 : Int) ≤ (1 : Int) ∧ (1 : Int) < (↑(2 : Nat) : Int)) ∧
 okL (List.drop (Int.toNat a_1) x.fst) ∧
 (List.length a +
 List.length
 [(↑(takes (List.drop (Int.toNat a_1) x.fst) x.snd.fst.snd.fst) : Int)]) *
 (8 : Nat) ≤
 (140737488355328 : Nat) ∧
 List.length a +
 List.length
 [(↑(takes (List.drop (Int.toNat a_1) x.fst) x.snd.fst.snd.fst) : Int)] ≤
 maxLen ∧
 ((IntKind.wrap IntKind.i64
 (a_1 +
 (↑(takes (List.drop (Int.toNat a_1) x.fst) x.snd.fst.snd.fst) : Int)) =
 IntKind.wrap IntKind.i64
 (a_1 +
 (↑(takes (List.drop (Int.toNat a_1) x.fst) x.snd.fst.snd.fst) : Int)) ∧
 True ∧ x.fst = x.fst ∧ True) ∧
 (x.snd.fst.fst = x.snd.fst.fst ∧ x.snd.fst.snd.fst = x.snd.fst.snd.fst) ∧
 a ++ [(↑(takes (List.drop (Int.toNat a_1) x.fst) x.snd.fst.snd.fst) : Int)] =
 a ++
 [(↑(takes (List.drop (Int.toNat a_1) x.fst) x.snd.fst.snd.fst) : Int)] ∧
 True) ∧
 Z
 (a ++ [(↑(takes (List.drop (Int.toNat a_1) x.fst) x.snd.fst.snd.fst) : Int)],
 IntKind.wrap IntKind.i64
 (a_1 +
 (↑(takes (List.drop (Int.toNat a_1) x.fst) x.snd.fst.snd.fst) : Int)),
 ()) ∧
 μ
 (a ++
 [(↑(takes (List.drop (Int.toNat a_1) x.fst) x.snd.fst.snd.fst) : Int)],
 IntKind.wrap IntKind.i64
 (a_1 +
 (↑(takes (List.drop (Int.toNat a_1) x.fst) x.snd.fst.snd.fst) : Int)),
 ()) <
 μ (a, a_1, ())) ∧
 (decide (a_1 < (↑(List.length x.fst) : Int)) = false →
 a = allR x.fst x.snd.fst.fst x.snd.fst.snd.fst)
theorem vcEq18 : fnVC E18 Try.f18 (bodyOf Try.f18) cRAll = vc18 := by kernel_rfl
/- fn 19 -/
def hs19 : List (Nat × Nat × Hint) := [(0, 3, ⟨[.slot 3 t3, .slot 8 t3], [6, 7], [], []⟩)]
def nm19 : List Nat := []
noncomputable def E19 : Env := env tab [] [] noGl hs19 nm19
def vc19 : Prop :=
 ∀ (x : List (Int × Int × Int × Int × Unit) × Unit),
 okL x.fst →
 ((0 : Int) = (0 : Int) ∧
 (0 : Int) = (0 : Int) ∧ x.fst = x.fst ∧ (↑(List.length x.fst) : Int) = (↑(List.length x.fst) : Int)) ∧
 ∃ (Z : Int × Int × Unit → Prop),
 ∃ (μ : Int × Int × Unit → Nat),
 Z ((0 : Int), (0 : Int), ()) ∧
 ∀ (a a_1 : Int),
 Z (a, a_1, ()) →
 (decide (a_1 < (↑(List.length x.fst) : Int)) = true →
 ((0 : Int) ≤ a_1 ∧ a_1 < (↑(List.length x.fst) : Int)) ∧
 (IntKind.wrap IntKind.i64 (a_1 + (1 : Int)) = IntKind.wrap IntKind.i64 (a_1 + (1 : Int)) ∧
 IntKind.wrap IntKind.i64 (a + (List.getD x.fst (Int.toNat a_1) (Ty.dflt t35)).snd.snd.fst) =
 IntKind.wrap IntKind.i64
 (a + (List.getD x.fst (Int.toNat a_1) (Ty.dflt t35)).snd.snd.fst) ∧
 x.fst = x.fst ∧ (↑(List.length x.fst) : Int) = (↑(List.length x.fst) : Int)) ∧
 Z
 (IntKind.wrap IntKind.i64 (a + (List.getD x.fst (Int.toNat a_1) (Ty.dflt t35)).snd.snd.fst),
 IntKind.wrap IntKind.i64 (a_1 + (1 : Int)), ()) ∧
 μ
 (IntKind.wrap IntKind.i64
 (a + (List.getD x.fst (Int.toNat a_1) (Ty.dflt t35)).snd.snd.fst),
 IntKind.wrap IntKind.i64 (a_1 + (1 : Int)), ()) <
 μ (a, a_1, ())) ∧
 (decide (a_1 < (↑(List.length x.fst) : Int)) = false → a = width x.fst)
theorem vcEq19 : fnVC E19 Try.f19 (bodyOf Try.f19) cWidth = vc19 := by kernel_rfl
/- fn 20 -/
def hs20 : List (Nat × Nat × Hint) := []
def nm20 : List Nat := []
noncomputable def E20 : Env := env tab [(25, cBlank)] [] noGl hs20 nm20
def vc20 : Prop :=
 ∀ (x : List (Int × Int × Int × Int × Unit) × Int × Unit),
 okL x.fst →
 (decide (x.snd.fst > (0 : Int)) = true →
 (decide (x.snd.fst < (↑(List.length x.fst) : Int)) = true →
 ((0 : Int) ≤ IntKind.wrap IntKind.i64 (x.snd.fst - (1 : Int)) ∧
 IntKind.wrap IntKind.i64 (x.snd.fst - (1 : Int)) < (↑(List.length x.fst) : Int)) ∧
 True ∧
 (blank (List.getD x.fst (Int.toNat (IntKind.wrap IntKind.i64 (x.snd.fst - (1 : Int)))) (Ty.dflt t35)) =
 true →
 ((0 : Int) ≤ x.snd.fst ∧ x.snd.fst < (↑(List.length x.fst) : Int)) ∧
 True ∧
 ((!blank (List.getD x.fst (Int.toNat x.snd.fst) (Ty.dflt t35))) = true →
 ((0 : Int) ≤ x.snd.fst ∧ x.snd.fst < (↑(List.length x.fst) : Int)) ∧
 decide ((List.getD x.fst (Int.toNat x.snd.fst) (Ty.dflt t35)).snd.snd.fst > (0 : Int)) =
 bound x.fst x.snd.fst) ∧
 ((!blank (List.getD x.fst (Int.toNat x.snd.fst) (Ty.dflt t35))) = false →
 false = bound x.fst x.snd.fst)) ∧
 (blank
 (List.getD x.fst (Int.toNat (IntKind.wrap IntKind.i64 (x.snd.fst - (1 : Int)))) (Ty.dflt t35)) =
 false →
 false = bound x.fst x.snd.fst)) ∧
 (decide (x.snd.fst < (↑(List.length x.fst) : Int)) = false → false = bound x.fst x.snd.fst)) ∧
 (decide (x.snd.fst > (0 : Int)) = false → false = bound x.fst x.snd.fst)
theorem vcEq20 : fnVC E20 Try.f20 (bodyOf Try.f20) cBoundary = vc20 := by kernel_rfl
/- fn 21 -/
def hs21 : List (Nat × Nat × Hint) := [(0, 2, ⟨[.slot 5 t3, .slot 6 t3], [0, 1], [], []⟩),
  (0, 8, ⟨[.slot 5 t3], [0], [], []⟩)]
def nm21 : List Nat := []
noncomputable def E21 : Env := env tab [] [] noGl hs21 nm21
def vc21 : Prop :=
 ∀ (x : List (Int × Int × Int × Int × Unit) × Int × Unit),
 okL x.fst →
 ((0 : Int) = (0 : Int) ∧ (0 : Int) = (0 : Int) ∧ x.fst = x.fst ∧ x.snd.fst = x.snd.fst) ∧
 ∃ (Z : Int × Int × Unit → Prop),
 ∃ (μ : Int × Int × Unit → Nat),
 Z ((0 : Int), (0 : Int), ()) ∧
 ∀ (a a_1 : Int),
 Z (a, a_1, ()) →
 (decide (a < (↑(List.length x.fst) : Int)) = true →
 ((0 : Int) ≤ a ∧ a < (↑(List.length x.fst) : Int)) ∧
 (decide
 (IntKind.wrap IntKind.i64
 (a_1 + (List.getD x.fst (Int.toNat a) (Ty.dflt t35)).snd.snd.fst) ≤
 x.snd.fst) =
 true →
 ((0 : Int) ≤ a ∧ a < (↑(List.length x.fst) : Int)) ∧
 (IntKind.wrap IntKind.i64
 (a_1 + (List.getD x.fst (Int.toNat a) (Ty.dflt t35)).snd.snd.fst) =
 IntKind.wrap IntKind.i64
 (a_1 + (List.getD x.fst (Int.toNat a) (Ty.dflt t35)).snd.snd.fst) ∧
 IntKind.wrap IntKind.i64 (a + (1 : Int)) = IntKind.wrap IntKind.i64 (a + (1 : Int)) ∧
 x.fst = x.fst ∧ x.snd.fst = x.snd.fst) ∧
 Z
 (IntKind.wrap IntKind.i64 (a + (1 : Int)),
 IntKind.wrap IntKind.i64
 (a_1 + (List.getD x.fst (Int.toNat a) (Ty.dflt t35)).snd.snd.fst),
 ()) ∧
 μ
 (IntKind.wrap IntKind.i64 (a + (1 : Int)),
 IntKind.wrap IntKind.i64
 (a_1 + (List.getD x.fst (Int.toNat a) (Ty.dflt t35)).snd.snd.fst),
 ()) <
 μ (a, a_1, ())) ∧
 (decide
 (IntKind.wrap IntKind.i64
 (a_1 + (List.getD x.fst (Int.toNat a) (Ty.dflt t35)).snd.snd.fst) ≤
 x.snd.fst) =
 false →
 (decide (a > (0 : Int)) = true → a = (↑(fit x.fst x.snd.fst) : Int)) ∧
 (decide (a > (0 : Int)) = false →
 ((1 : Int) = (1 : Int) ∧ x.fst = x.fst) ∧
 ∃ (Z : Int × Unit → Prop),
 ∃ (μ : Int × Unit → Nat),
 Z ((1 : Int), ()) ∧
 ∀ (a : Int),
 Z (a, ()) →
 (decide (a < (↑(List.length x.fst) : Int)) = true →
 ((0 : Int) ≤ a ∧ a < (↑(List.length x.fst) : Int)) ∧
 (((List.getD x.fst (Int.toNat a) (Ty.dflt t35)).snd.snd.fst ==
 (0 : Int)) =
 true →
 (IntKind.wrap IntKind.i64 (a + (1 : Int)) =
 IntKind.wrap IntKind.i64 (a + (1 : Int)) ∧
 x.fst = x.fst) ∧
 Z (IntKind.wrap IntKind.i64 (a + (1 : Int)), ()) ∧
 μ (IntKind.wrap IntKind.i64 (a + (1 : Int)), ()) < μ (a, ())) ∧
 (((List.getD x.fst (Int.toNat a) (Ty.dflt t35)).snd.snd.fst ==
 (0 : Int)) =
 false →
 a = (↑(fit x.fst x.snd.fst) : Int))) ∧
 (decide (a < (↑(List.length x.fst) : Int)) = false →
 a = (↑(fit x.fst x.snd.fst) : Int))))) ∧
 (decide (a < (↑(List.length x.fst) : Int)) = false →
 (decide (a > (0 : Int)) = true → a = (↑(fit x.fst x.snd.fst) : Int)) ∧
 (decide (a > (0 : Int)) = false →
 ((1 : Int) = (1 : Int) ∧ x.fst = x.fst) ∧
 ∃ (Z : Int × Unit → Prop),
 ∃ (μ : Int × Unit → Nat),
 Z ((1 : Int), ()) ∧
 ∀ (a : Int),
 Z (a, ()) →
 (decide (a < (↑(List.length x.fst) : Int)) = true →
 ((0 : Int) ≤ a ∧ a < (↑(List.length x.fst) : Int)) ∧
 (((List.getD x.fst (Int.toNat a) (Ty.dflt t35)).snd.snd.fst == (0 : Int)) =
 true →
 (IntKind.wrap IntKind.i64 (a + (1 : Int)) =
 IntKind.wrap IntKind.i64 (a + (1 : Int)) ∧
 x.fst = x.fst) ∧
 Z (IntKind.wrap IntKind.i64 (a + (1 : Int)), ()) ∧
 μ (IntKind.wrap IntKind.i64 (a + (1 : Int)), ()) < μ (a, ())) ∧
 (((List.getD x.fst (Int.toNat a) (Ty.dflt t35)).snd.snd.fst == (0 : Int)) =
 false →
 a = (↑(fit x.fst x.snd.fst) : Int))) ∧
 (decide (a < (↑(List.length x.fst) : Int)) = false →
 a = (↑(fit x.fst x.snd.fst) : Int))))
theorem vcEq21 : fnVC E21 Try.f21 (bodyOf Try.f21) cFit = vc21 := by kernel_rfl
/- fn 22 -/
def hs22 : List (Nat × Nat × Hint) := []
def nm22 : List Nat := []
noncomputable def E22 : Env := env tab [(24, cBlank)] [] noGl hs22 nm22
def vc22 : Prop :=
 ∀ (x : List (Int × Int × Int × Int × Unit) × Int × Unit),
 okL x.fst →
 (decide (x.snd.fst > (0 : Int)) = true →
 (decide (x.snd.fst < (↑(List.length x.fst) : Int)) = true →
 ((0 : Int) ≤ IntKind.wrap IntKind.i64 (x.snd.fst - (1 : Int)) ∧
 IntKind.wrap IntKind.i64 (x.snd.fst - (1 : Int)) < (↑(List.length x.fst) : Int)) ∧
 True ∧
 (blank (List.getD x.fst (Int.toNat (IntKind.wrap IntKind.i64 (x.snd.fst - (1 : Int)))) (Ty.dflt t35)) =
 true →
 ((0 : Int) ≤ x.snd.fst ∧ x.snd.fst < (↑(List.length x.fst) : Int)) ∧
 True ∧
 ((!blank (List.getD x.fst (Int.toNat x.snd.fst) (Ty.dflt t35))) = true →
 ((0 : Int) ≤ x.snd.fst ∧ x.snd.fst < (↑(List.length x.fst) : Int)) ∧
 decide ((List.getD x.fst (Int.toNat x.snd.fst) (Ty.dflt t35)).snd.snd.fst > (0 : Int)) =
 bound x.fst x.snd.fst) ∧
 ((!blank (List.getD x.fst (Int.toNat x.snd.fst) (Ty.dflt t35))) = false →
 false = bound x.fst x.snd.fst)) ∧
 (blank
 (List.getD x.fst (Int.toNat (IntKind.wrap IntKind.i64 (x.snd.fst - (1 : Int)))) (Ty.dflt t35)) =
 false →
 false = bound x.fst x.snd.fst)) ∧
 (decide (x.snd.fst < (↑(List.length x.fst) : Int)) = false → false = bound x.fst x.snd.fst)) ∧
 (decide (x.snd.fst > (0 : Int)) = false → false = bound x.fst x.snd.fst)
theorem vcEq22 : fnVC E22 Try.f22 (bodyOf Try.f22) cBoundary = vc22 := by kernel_rfl
/- fn 23 -/
def hs23 : List (Nat × Nat × Hint) := [(0, 2, ⟨[.slot 5 t3], [0, 1], [], []⟩),
  (0, 6, ⟨[.slot 5 t3], [0], [], []⟩)]
def nm23 : List Nat := []
noncomputable def E23 : Env := env tab [(19, cWidth)] [] noGl hs23 nm23
def vc23 : Prop :=
 ∀ (x : List (Int × Int × Int × Int × Unit) × Int × Unit),
 okL x.fst →
 ((0 : Int) = (0 : Int) ∧ x.fst = x.fst ∧ x.snd.fst = x.snd.fst) ∧
 ∃ (Z : Int × Unit → Prop),
 ∃ (μ : Int × Unit → Nat),
 Z ((0 : Int), ()) ∧
 ∀ (a : Int),
 Z (a, ()) →
 (decide (a < (↑(List.length x.fst) : Int)) = true →
 ((0 : Int) ≤ IntKind.wrap IntKind.i64 (a + (1 : Int)) ∧
 IntKind.wrap IntKind.i64 (a + (1 : Int)) ≤ (↑(List.length x.fst) : Int)) ∧
 okL (List.take (Int.toNat (IntKind.wrap IntKind.i64 (a + (1 : Int)))) x.fst) ∧
 (decide
 (width (List.take (Int.toNat (IntKind.wrap IntKind.i64 (a + (1 : Int)))) x.fst) ≤
 x.snd.fst) =
 true →
 (IntKind.wrap IntKind.i64 (a + (1 : Int)) = IntKind.wrap IntKind.i64 (a + (1 : Int)) ∧
 x.fst = x.fst ∧ x.snd.fst = x.snd.fst) ∧
 Z (IntKind.wrap IntKind.i64 (a + (1 : Int)), ()) ∧
 μ (IntKind.wrap IntKind.i64 (a + (1 : Int)), ()) < μ (a, ())) ∧
 (decide
 (width (List.take (Int.toNat (IntKind.wrap IntKind.i64 (a + (1 : Int)))) x.fst) ≤
 x.snd.fst) =
 false →
 ((a == (0 : Int)) = true →
 ((1 : Int) = (1 : Int) ∧ x.fst = x.fst) ∧
 ∃ (Z : Int × Unit → Prop),
 ∃ (μ : Int × Unit → Nat),
 Z ((1 : Int), ()) ∧
 ∀ (a : Int),
 Z (a, ()) →
 (decide (a < (↑(List.length x.fst) : Int)) = true →
 ((0 : Int) ≤ a ∧ a < (↑(List.length x.fst) : Int)) ∧
 (((List.getD x.fst (Int.toNat a) (Ty.dflt t35)).snd.snd.fst ==
 (0 : Int)) =
 true →
 (IntKind.wrap IntKind.i64 (a + (1 : Int)) =
 IntKind.wrap IntKind.i64 (a + (1 : Int)) ∧
 x.fst = x.fst) ∧
 Z (IntKind.wrap IntKind.i64 (a + (1 : Int)), ()) ∧
 μ (IntKind.wrap IntKind.i64 (a + (1 : Int)), ()) <
 μ (a, ())) ∧
 (((List.getD x.fst (Int.toNat a) (Ty.dflt t35)).snd.snd.fst ==
 (0 : Int)) =
 false →
 a = (↑(fit x.fst x.snd.fst) : Int))) ∧
 (decide (a < (↑(List.length x.fst) : Int)) = false →
 a = (↑(fit x.fst x.snd.fst) : Int))) ∧
 ((a == (0 : Int)) = false → a = (↑(fit x.fst x.snd.fst) : Int)))) ∧
 (decide (a < (↑(List.length x.fst) : Int)) = false →
 ((a == (0 : Int)) = true →
 ((1 : Int) = (1 : Int) ∧ x.fst = x.fst) ∧
 ∃ (Z : Int × Unit → Prop),
 ∃ (μ : Int × Unit → Nat),
 Z ((1 : Int), ()) ∧
 ∀ (a : Int),
 Z (a, ()) →
 (decide (a < (↑(List.length x.fst) : Int)) = true →
 ((0 : Int) ≤ a ∧ a < (↑(List.length x.fst) : Int)) ∧
 (((List.getD x.fst (Int.toNat a) (Ty.dflt t35)).snd.snd.fst == (0 : Int)) =
 true →
 (IntKind.wrap IntKind.i64 (a + (1 : Int)) =
 IntKind.wrap IntKind.i64 (a + (1 : Int)) ∧
 x.fst = x.fst) ∧
 Z (IntKind.wrap IntKind.i64 (a + (1 : Int)), ()) ∧
 μ (IntKind.wrap IntKind.i64 (a + (1 : Int)), ()) < μ (a, ())) ∧
 (((List.getD x.fst (Int.toNat a) (Ty.dflt t35)).snd.snd.fst == (0 : Int)) =
 false →
 a = (↑(fit x.fst x.snd.fst) : Int))) ∧
 (decide (a < (↑(List.length x.fst) : Int)) = false →
 a = (↑(fit x.fst x.snd.fst) : Int))) ∧
 ((a == (0 : Int)) = false → a = (↑(fit x.fst x.snd.fst) : Int)))
theorem vcEq23 : fnVC E23 Try.f23 (bodyOf Try.f23) cFit = vc23 := by kernel_rfl
/- fn 24 -/
def hs24 : List (Nat × Nat × Hint) := []
def nm24 : List Nat := []
noncomputable def E24 : Env := env tab [] [] noGl hs24 nm24
def vc24 : Prop :=
 ∀ (x : (Int × Int × Int × Int × Unit) × Unit),
 True →
 ((x.fst.fst == (32 : Int)) = true → true = blank x.fst) ∧
 ((x.fst.fst == (32 : Int)) = false → (x.fst.fst == (9 : Int)) = blank x.fst)
theorem vcEq24 : fnVC E24 Try.f24 (bodyOf Try.f24) cBlank = vc24 := by kernel_rfl
/- fn 25 -/
def hs25 : List (Nat × Nat × Hint) := []
def nm25 : List Nat := []
noncomputable def E25 : Env := env tab [] [] noGl hs25 nm25
def vc25 : Prop :=
 ∀ (x : (Int × Int × Int × Int × Unit) × Unit),
 True →
 ((x.fst.fst == (32 : Int)) = true → true = blank x.fst) ∧
 ((x.fst.fst == (32 : Int)) = false → (x.fst.fst == (9 : Int)) = blank x.fst)
theorem vcEq25 : fnVC E25 Try.f25 (bodyOf Try.f25) cBlank = vc25 := by kernel_rfl
/- fn 27 -/
def hs27 : List (Nat × Nat × Hint) := [(0, 5, ⟨[.slot 17 t3], [0, 1, 5, 15, 16], [], []⟩)]
def nm27 : List Nat := []
noncomputable def E27 : Env := env tab [(13, cTakes), (25, cBlank), (23, cFit)] [] noGl hs27 nm27
def vc27 : Prop :=
 ∀ (x : List (Int × Int × Int × Int × Unit) × Int × Unit),
 okL x.fst →
 okL x.fst ∧
 (((↑(takes x.fst x.snd.fst) : Int) == (0 : Int)) = true → (0 : Int) = (↑(start x.fst x.snd.fst) : Int)) ∧
 (((↑(takes x.fst x.snd.fst) : Int) == (0 : Int)) = false →
 ((0 : Int) ≤ (↑(takes x.fst x.snd.fst) : Int) ∧
 (↑(takes x.fst x.snd.fst) : Int) ≤ (↑(List.length x.fst) : Int)) ∧
 ((0 : Int) = (0 : Int) ∧
 x.fst = x.fst ∧
 x.snd.fst = x.snd.fst ∧
 (↑(takes x.fst x.snd.fst) : Int) = (↑(takes x.fst x.snd.fst) : Int) ∧
 List.take (Int.toNat (↑(takes x.fst x.snd.fst) : Int)) x.fst =
 List.take (Int.toNat (↑(takes x.fst x.snd.fst) : Int)) x.fst ∧
 (↑(List.length (List.take (Int.toNat (↑(takes x.fst x.snd.fst) : Int)) x.fst)) : Int) =
 (↑(List.length (List.take (Int.toNat (↑(takes x.fst x.snd.fst) : Int)) x.fst)) : Int)) ∧
 ∃ (Z : Int × Unit → Prop),
 ∃ (μ : Int × Unit → Nat),
 Z ((0 : Int), ()) ∧
 ∀ (a : Int),
 Z (a, ()) →
 (decide
 (a <
 (↑(List.length (List.take (Int.toNat (↑(takes x.fst x.snd.fst) : Int)) x.fst)) :
 Int)) =
 true →
 ((0 : Int) ≤ a ∧
 a <
 (↑(List.length (List.take (Int.toNat (↑(takes x.fst x.snd.fst) : Int)) x.fst)) :
 Int)) ∧
 True ∧
 ((!blank
 (List.getD (List.take (Int.toNat (↑(takes x.fst x.snd.fst) : Int)) x.fst)
 (Int.toNat a) (Ty.dflt t35))) =
 true →
 (↑(takes x.fst x.snd.fst) : Int) = (↑(start x.fst x.snd.fst) : Int)) ∧
 ((!blank
 (List.getD (List.take (Int.toNat (↑(takes x.fst x.snd.fst) : Int)) x.fst)
 (Int.toNat a) (Ty.dflt t35))) =
 false →
 (IntKind.wrap IntKind.i64 (a + (1 : Int)) =
 IntKind.wrap IntKind.i64 (a + (1 : Int)) ∧
 x.fst = x.fst ∧
 x.snd.fst = x.snd.fst ∧
 (↑(takes x.fst x.snd.fst) : Int) = (↑(takes x.fst x.snd.fst) : Int) ∧
 List.take (Int.toNat (↑(takes x.fst x.snd.fst) : Int)) x.fst =
 List.take (Int.toNat (↑(takes x.fst x.snd.fst) : Int)) x.fst ∧
 (↑(List.length
 (List.take (Int.toNat (↑(takes x.fst x.snd.fst) : Int))
 x.fst)) :
 Int) =
 (↑(List.length
 (List.take (Int.toNat (↑(takes x.fst x.snd.fst) : Int))
 x.fst)) :
 Int)) ∧
 Z (IntKind.wrap IntKind.i64 (a + (1 : Int)), ()) ∧
 μ (IntKind.wrap IntKind.i64 (a + (1 : Int)), ()) < μ (a, ()))) ∧
 (decide
 (a <
 (↑(List.length (List.take (Int.toNat (↑(takes x.fst x.snd.fst) : Int)) x.fst)) :
 Int)) =
 false →
 okL x.fst ∧ (↑(fit x.fst x.snd.fst) : Int) = (↑(start x.fst x.snd.fst) : Int)))
theorem vcEq27 : fnVC E27 Try.f27 (bodyOf Try.f27) cStart = vc27 := by kernel_rfl
/- fn 29 -/
def hs29 : List (Nat × Nat × Hint) := [(0, 3, ⟨[.slot 15 t3], [0, 1, 5, 13, 14], [], []⟩)]
def nm29 : List Nat := []
noncomputable def E29 : Env := env tab [(12, cTakes), (24, cBlank), (21, cFit)] [] noGl hs29 nm29
def vc29 : Prop :=
 ∀ (x : List (Int × Int × Int × Int × Unit) × Int × Unit),
 okL x.fst →
 okL x.fst ∧
 ((0 : Int) ≤ (↑(takes x.fst x.snd.fst) : Int) ∧ (↑(takes x.fst x.snd.fst) : Int) ≤ (↑(List.length x.fst) : Int)) ∧
 ((0 : Int) = (0 : Int) ∧
 x.fst = x.fst ∧
 x.snd.fst = x.snd.fst ∧
 (↑(takes x.fst x.snd.fst) : Int) = (↑(takes x.fst x.snd.fst) : Int) ∧
 List.take (Int.toNat (↑(takes x.fst x.snd.fst) : Int)) x.fst =
 List.take (Int.toNat (↑(takes x.fst x.snd.fst) : Int)) x.fst ∧
 (↑(List.length (List.take (Int.toNat (↑(takes x.fst x.snd.fst) : Int)) x.fst)) : Int) =
 (↑(List.length (List.take (Int.toNat (↑(takes x.fst x.snd.fst) : Int)) x.fst)) : Int)) ∧
 ∃ (Z : Int × Unit → Prop),
 ∃ (μ : Int × Unit → Nat),
 Z ((0 : Int), ()) ∧
 ∀ (a : Int),
 Z (a, ()) →
 (decide
 (a <
 (↑(List.length (List.take (Int.toNat (↑(takes x.fst x.snd.fst) : Int)) x.fst)) : Int)) =
 true →
 ((0 : Int) ≤ a ∧
 a < (↑(List.length (List.take (Int.toNat (↑(takes x.fst x.snd.fst) : Int)) x.fst)) : Int)) ∧
 True ∧
 ((!blank
 (List.getD (List.take (Int.toNat (↑(takes x.fst x.snd.fst) : Int)) x.fst)
 (Int.toNat a) (Ty.dflt t35))) =
 true →
 (↑(takes x.fst x.snd.fst) : Int) = (↑(start x.fst x.snd.fst) : Int)) ∧
 ((!blank
 (List.getD (List.take (Int.toNat (↑(takes x.fst x.snd.fst) : Int)) x.fst)
 (Int.toNat a) (Ty.dflt t35))) =
 false →
 (IntKind.wrap IntKind.i64 (a + (1 : Int)) = IntKind.wrap IntKind.i64 (a + (1 : Int)) ∧
 x.fst = x.fst ∧
 x.snd.fst = x.snd.fst ∧
 (↑(takes x.fst x.snd.fst) : Int) = (↑(takes x.fst x.snd.fst) : Int) ∧
 List.take (Int.toNat (↑(takes x.fst x.snd.fst) : Int)) x.fst =
 List.take (Int.toNat (↑(takes x.fst x.snd.fst) : Int)) x.fst ∧
 (↑(List.length
 (List.take (Int.toNat (↑(takes x.fst x.snd.fst) : Int)) x.fst)) :
 Int) =
 (↑(List.length
 (List.take (Int.toNat (↑(takes x.fst x.snd.fst) : Int)) x.fst)) :
 Int)) ∧
 Z (IntKind.wrap IntKind.i64 (a + (1 : Int)), ()) ∧
 μ (IntKind.wrap IntKind.i64 (a + (1 : Int)), ()) < μ (a, ()))) ∧
 (decide
 (a <
 (↑(List.length (List.take (Int.toNat (↑(takes x.fst x.snd.fst) : Int)) x.fst)) : Int)) =
 false →
 (((↑(takes x.fst x.snd.fst) : Int) == (0 : Int)) = true →
 (0 : Int) = (↑(start x.fst x.snd.fst) : Int)) ∧
 (((↑(takes x.fst x.snd.fst) : Int) == (0 : Int)) = false →
 okL x.fst ∧ (↑(fit x.fst x.snd.fst) : Int) = (↑(start x.fst x.snd.fst) : Int)))
theorem vcEq29 : fnVC E29 Try.f29 (bodyOf Try.f29) cStart = vc29 := by kernel_rfl
end Go.Fr.C19
