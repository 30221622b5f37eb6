/-
  Conditions to be proved, function by function, printed by a program. Conditions: none.
-/
import Derived.Test.YtgbadipbimclcaaDoorC03A
namespace Go.Fr.C03
open Go Go.Fr Go.Proofs
set_option maxRecDepth 100000

/- fn 3 -/
def hs3 : List (Nat × Nat × Hint) := []
def nm3 : List Nat := []
noncomputable def E3 : Env := env tab [(7, cTwo), (8, cOf), (9, cRef), (10, cRefOf), (11, cEnd)] [] gl hs3 nm3
def vc3 : Prop :=
 ∀ (x : List Int × Unit),
 List.length x.fst ≤ maxLen →
 (decide ((↑(List.length x.fst) : Int) > (2000 : Int)) = true → True ∧ true = true) ∧
 (decide ((↑(List.length x.fst) : Int) > (2000 : Int)) = false →
 List.length x.fst ≤ (1000000000 : Nat) ∧
 True ∧
 List.length x.fst ≤ (1000000000 : Nat) ∧
 (Ty.beq t27 (sumOf x.fst) (refSum x.fst) = true →
 True ∧
 (Ty.beq t31 ((sumOf x.fst).snd.snd.fst, (sumOf x.fst).snd.snd.snd.snd.fst, ())
 ((sumOf x.fst).snd.snd.fst, (sumOf x.fst).snd.snd.snd.snd.fst, ()) =
 true →
 True ∧ true = true) ∧
 (Ty.beq t31 ((sumOf x.fst).snd.snd.fst, (sumOf x.fst).snd.snd.snd.snd.fst, ())
 ((sumOf x.fst).snd.snd.fst, (sumOf x.fst).snd.snd.snd.snd.fst, ()) =
 false →
 false = true)) ∧
 (Ty.beq t27 (sumOf x.fst) (refSum x.fst) = false → false = true))
theorem vcEq3 : fnVC E3 Tryd.f3 (bodyOf Tryd.f3) cSumsOf = vc3 := by kernel_rfl
/- fn 4 -/
def hs4 : List (Nat × Nat × Hint) := []
def nm4 : List Nat := []
noncomputable def E4 : Env := env tab [(7, cTwo), (8, cOf), (12, cAdd)] [] gl hs4 nm4
def vc4 : Prop :=
 ∀ (x : List Int × List Int × Unit),
 List.length x.fst ≤ maxLen ∧ List.length x.snd.fst ≤ maxLen →
 (decide ((↑(List.length x.fst) : Int) > (1000 : Int)) = true → True ∧ true = true) ∧
 (decide ((↑(List.length x.fst) : Int) > (1000 : Int)) = false →
 (decide ((↑(List.length x.snd.fst) : Int) > (1000 : Int)) = true → True ∧ true = true) ∧
 (decide ((↑(List.length x.snd.fst) : Int) > (1000 : Int)) = false →
 (List.length ([] : List Int) + List.length x.fst) * (4 : Nat) ≤ (140737488355328 : Nat) ∧
 List.length ([] : List Int) + List.length x.fst ≤ maxLen ∧
 (List.length ([] ++ x.fst) + List.length x.snd.fst) * (4 : Nat) ≤ (140737488355328 : Nat) ∧
 List.length ([] ++ x.fst) + List.length x.snd.fst ≤ maxLen ∧
 List.length x.fst ≤ (1000000000 : Nat) ∧
 List.length x.snd.fst ≤ (1000000000 : Nat) ∧
 (okSum (sumOf x.fst) ∧ okSum (sumOf x.snd.fst)) ∧
 List.length ([] ++ x.fst ++ x.snd.fst) ≤ (1000000000 : Nat) ∧
 (Ty.beq t25 (addS (sumOf x.fst) (sumOf x.snd.fst)) (sumOf ([] ++ x.fst ++ x.snd.fst)) =
 true →
 (okSum (sumOf x.fst) ∧
 okSum
 ((0 : Int), (0 : Int), (0 : Int), (0 : Int), (0 : Int), (0 : Int), (0 : Int),
 ())) ∧
 (Ty.beq t25
 (addS (sumOf x.fst)
 ((0 : Int), (0 : Int), (0 : Int), (0 : Int), (0 : Int), (0 : Int),
 (0 : Int), ()))
 (sumOf x.fst) =
 true →
 (okSum
 ((0 : Int), (0 : Int), (0 : Int), (0 : Int), (0 : Int), (0 : Int),
 (0 : Int), ()) ∧
 okSum (sumOf x.fst)) ∧
 (Ty.beq t25
 (addS
 ((0 : Int), (0 : Int), (0 : Int), (0 : Int), (0 : Int), (0 : Int),
 (0 : Int), ())
 (sumOf x.fst))
 (sumOf x.fst) =
 true →
 True ∧ true = true) ∧
 (Ty.beq t25
 (addS
 ((0 : Int), (0 : Int), (0 : Int), (0 : Int), (0 : Int), (0 : Int),
 (0 : Int), ())
 (sumOf x.fst))
 (sumOf x.fst) =
 false →
 false = true)) ∧
 (Ty.beq t25
 (addS (sumOf x.fst)
 ((0 : Int), (0 : Int), (0 : Int), (0 : Int), (0 : Int), (0 : Int),
 (0 : Int), ()))
 (sumOf x.fst) =
 false →
 false = true)) ∧
 (Ty.beq t25 (addS (sumOf x.fst) (sumOf x.snd.fst)) (sumOf ([] ++ x.fst ++ x.snd.fst)) =
 false →
 false = true)))
theorem vcEq4 : fnVC E4 Tryd.f4 (bodyOf Tryd.f4) cSumsAdds = vc4 := by kernel_rfl
/- fn 5 -/
def hs5 : List (Nat × Nat × Hint) := []
def nm5 : List Nat := []
noncomputable def E5 : Env := env tab [(7, cTwo), (8, cOf), (12, cAdd)] [] gl hs5 nm5
def vc5 : Prop :=
 ∀ (x : List Int × List Int × List Int × Unit),
 List.length x.fst ≤ maxLen ∧ List.length x.snd.fst ≤ maxLen ∧ List.length x.snd.snd.fst ≤ maxLen →
 (decide ((↑(List.length x.fst) : Int) > (1000 : Int)) = true → True ∧ true = true) ∧
 (decide ((↑(List.length x.fst) : Int) > (1000 : Int)) = false →
 (decide ((↑(List.length x.snd.fst) : Int) > (1000 : Int)) = true → True ∧ true = true) ∧
 (decide ((↑(List.length x.snd.fst) : Int) > (1000 : Int)) = false →
 (decide ((↑(List.length x.snd.snd.fst) : Int) > (1000 : Int)) = true → True ∧ true = true) ∧
 (decide ((↑(List.length x.snd.snd.fst) : Int) > (1000 : Int)) = false →
 List.length x.fst ≤ (1000000000 : Nat) ∧
 List.length x.snd.fst ≤ (1000000000 : Nat) ∧
 List.length x.snd.snd.fst ≤ (1000000000 : Nat) ∧
 (okSum (sumOf x.fst) ∧ okSum (sumOf x.snd.fst)) ∧
 (okSum (addS (sumOf x.fst) (sumOf x.snd.fst)) ∧ okSum (sumOf x.snd.snd.fst)) ∧
 (okSum (sumOf x.snd.fst) ∧ okSum (sumOf x.snd.snd.fst)) ∧
 (okSum (sumOf x.fst) ∧ okSum (addS (sumOf x.snd.fst) (sumOf x.snd.snd.fst))) ∧
 (Ty.beq t25 (addS (addS (sumOf x.fst) (sumOf x.snd.fst)) (sumOf x.snd.snd.fst))
 (addS (sumOf x.fst) (addS (sumOf x.snd.fst) (sumOf x.snd.snd.fst))) =
 true →
 True ∧ true = true) ∧
 (Ty.beq t25 (addS (addS (sumOf x.fst) (sumOf x.snd.fst)) (sumOf x.snd.snd.fst))
 (addS (sumOf x.fst) (addS (sumOf x.snd.fst) (sumOf x.snd.snd.fst))) =
 false →
 false = true))))
theorem vcEq5 : fnVC E5 Tryd.f5 (bodyOf Tryd.f5) cSumsBrackets = vc5 := by kernel_rfl
/- fn 6 -/
def hs6 : List (Nat × Nat × Hint) := [(0, 6, ⟨[.slot 6 t3, .slot 21 t3, .cell 5 0 t3, .cell 5 1 t3, .cell 5 2 t3, .cell 5 3 t3, .cell 5 4 t3, .cell 5 5 t3, .cell 5 6 t3], [0, 5, 19, 20], [5], []⟩)]
def nm6 : List Nat := []
noncomputable def E6 : Env := env tab [(7, cTwo), (8, cOf), (12, cAdd), (9, cRef), (10, cRefOf)] [] gl hs6 nm6
def vc6 : Prop :=
 ∀ (x : List Int × List Int × Unit),
 List.length x.fst ≤ maxLen ∧ List.length x.snd.fst ≤ maxLen →
 (decide ((↑(List.length x.fst) : Int) > (1000 : Int)) = true → True ∧ true = true) ∧
 (decide ((↑(List.length x.fst) : Int) > (1000 : Int)) = false →
 (decide ((↑(List.length x.snd.fst) : Int) > (100 : Int)) = true → True ∧ true = true) ∧
 (decide ((↑(List.length x.snd.fst) : Int) > (100 : Int)) = false →
 (((0 : Int) = (0 : Int) ∧
 (0 : Int) = (0 : Int) ∧
 x.fst = x.fst ∧
 True ∧
 x.snd.fst = x.snd.fst ∧ (↑(List.length x.snd.fst) : Int) = (↑(List.length x.snd.fst) : Int)) ∧
 (0 : Int) = (0 : Int) ∧
 (0 : Int) = (0 : Int) ∧
 (0 : Int) = (0 : Int) ∧
 (0 : Int) = (0 : Int) ∧ (0 : Int) = (0 : Int) ∧ (0 : Int) = (0 : Int) ∧ (0 : Int) = (0 : Int)) ∧
 ∃ (Z : Int × Int × Int × Int × Int × Int × Int × Int × Int × Unit → Prop),
 ∃ (μ : Int × Int × Int × Int × Int × Int × Int × Int × Int × Unit → Nat),
 Z
 ((0 : Int), (0 : Int), (0 : Int), (0 : Int), (0 : Int), (0 : Int), (0 : Int), (0 : Int),
 (0 : Int), ()) ∧
 ∀ (a a_1 a_2 a_3 a_4 a_5 a_6 a_7 a_8 : Int),
 Z (a, a_1, a_2, a_3, a_4, a_5, a_6, a_7, a_8, ()) →
 (decide (a_1 < (↑(List.length x.snd.fst) : Int)) = true →
 ((0 : Int) ≤ a_1 ∧ a_1 < (↑(List.length x.snd.fst) : Int)) ∧
 (decide (List.getD x.snd.fst (Int.toNat a_1) (Ty.dflt t3) < (0 : Int)) = true →
 ((IntKind.wrap IntKind.i64 (a_1 + (1 : Int)) =
 IntKind.wrap IntKind.i64 (a_1 + (1 : Int)) ∧
 a = a ∧
 x.fst = x.fst ∧
 True ∧
 x.snd.fst = x.snd.fst ∧
 (↑(List.length x.snd.fst) : Int) = (↑(List.length x.snd.fst) : Int)) ∧
 a_2 = a_2 ∧
 a_3 = a_3 ∧ a_4 = a_4 ∧ a_5 = a_5 ∧ a_6 = a_6 ∧ a_7 = a_7 ∧ a_8 = a_8) ∧
 Z
 (a, IntKind.wrap IntKind.i64 (a_1 + (1 : Int)), a_2, a_3, a_4, a_5, a_6, a_7,
 a_8, ()) ∧
 μ
 (a, IntKind.wrap IntKind.i64 (a_1 + (1 : Int)), a_2, a_3, a_4, a_5, a_6, a_7,
 a_8, ()) <
 μ (a, a_1, a_2, a_3, a_4, a_5, a_6, a_7, a_8, ())) ∧
 (decide (List.getD x.snd.fst (Int.toNat a_1) (Ty.dflt t3) < (0 : Int)) = false →
 (decide
 (List.getD x.snd.fst (Int.toNat a_1) (Ty.dflt t3) >
 IntKind.wrap IntKind.i64 ((↑(List.length x.fst) : Int) - a)) =
 true →
 ((IntKind.wrap IntKind.i64 (a_1 + (1 : Int)) =
 IntKind.wrap IntKind.i64 (a_1 + (1 : Int)) ∧
 a = a ∧
 x.fst = x.fst ∧
 True ∧
 x.snd.fst = x.snd.fst ∧
 (↑(List.length x.snd.fst) : Int) =
 (↑(List.length x.snd.fst) : Int)) ∧
 a_2 = a_2 ∧
 a_3 = a_3 ∧ a_4 = a_4 ∧ a_5 = a_5 ∧ a_6 = a_6 ∧ a_7 = a_7 ∧ a_8 = a_8) ∧
 Z
 (a, IntKind.wrap IntKind.i64 (a_1 + (1 : Int)), a_2, a_3, a_4, a_5, a_6,
 a_7, a_8, ()) ∧
 μ
 (a, IntKind.wrap IntKind.i64 (a_1 + (1 : Int)), a_2, a_3, a_4, a_5, a_6,
 a_7, a_8, ()) <
 μ (a, a_1, a_2, a_3, a_4, a_5, a_6, a_7, a_8, ())) ∧
 (decide
 (List.getD x.snd.fst (Int.toNat a_1) (Ty.dflt t3) >
 IntKind.wrap IntKind.i64 ((↑(List.length x.fst) : Int) - a)) =
 false →
 ((0 : Int) ≤ a ∧
 a ≤
 IntKind.wrap IntKind.i64
 (a + List.getD x.snd.fst (Int.toNat a_1) (Ty.dflt t3)) ∧
 IntKind.wrap IntKind.i64
 (a + List.getD x.snd.fst (Int.toNat a_1) (Ty.dflt t3)) ≤
 (↑(List.length x.fst) : Int)) ∧
 List.length
 (List.drop (Int.toNat a)
 (List.take
 (Int.toNat
 (IntKind.wrap IntKind.i64
 (a + List.getD x.snd.fst (Int.toNat a_1) (Ty.dflt t3))))
 x.fst)) ≤
 (1000000000 : Nat) ∧
 (okSum (a_2, a_3, a_4, a_5, a_6, a_7, a_8, ()) ∧
 okSum
 (sumOf
 (List.drop (Int.toNat a)
 (List.take
 (Int.toNat
 (IntKind.wrap IntKind.i64
 (a + List.getD x.snd.fst (Int.toNat a_1) (Ty.dflt t3))))
 x.fst)))) ∧
 ((IntKind.wrap IntKind.i64 (a_1 + (1 : Int)) =
 IntKind.wrap IntKind.i64 (a_1 + (1 : Int)) ∧
 IntKind.wrap IntKind.i64
 (a + List.getD x.snd.fst (Int.toNat a_1) (Ty.dflt t3)) =
 IntKind.wrap IntKind.i64
 (a + List.getD x.snd.fst (Int.toNat a_1) (Ty.dflt t3)) ∧
 x.fst = x.fst ∧
 True ∧
 x.snd.fst = x.snd.fst ∧
 (↑(List.length x.snd.fst) : Int) =
 (↑(List.length x.snd.fst) : Int)) ∧
 (addS (a_2, a_3, a_4, a_5, a_6, a_7, a_8, ())
 (sumOf
 (List.drop (Int.toNat a)
 (List.take
 (Int.toNat
 (IntKind.wrap IntKind.i64
 (a +
 List.getD x.snd.fst (Int.toNat a_1) (Ty.dflt t3))))
 x.fst)))).fst =
 (addS (a_2, a_3, a_4, a_5, a_6, a_7, a_8, ())
 (sumOf
 (List.drop (Int.toNat a)
 (List.take
 (Int.toNat
 (IntKind.wrap IntKind.i64
 (a +
 List.getD x.snd.fst (Int.toNat a_1) (Ty.dflt t3))))
 x.fst)))).fst ∧
 (addS (a_2, a_3, a_4, a_5, a_6, a_7, a_8, ())
 (sumOf
 (List.drop (Int.toNat a)
 (List.take
 (Int.toNat
 (IntKind.wrap IntKind.i64
 (a +
 List.getD x.snd.fst (Int.toNat a_1)
 (Ty.dflt t3))))
 x.fst)))).snd.fst =
 (addS (a_2, a_3, a_4, a_5, a_6, a_7, a_8, ())
 (sumOf
 (List.drop (Int.toNat a)
 (List.take
 (Int.toNat
 (IntKind.wrap IntKind.i64
 (a +
 List.getD x.snd.fst (Int.toNat a_1)
 (Ty.dflt t3))))
 x.fst)))).snd.fst ∧
 (addS (a_2, a_3, a_4, a_5, a_6, a_7, a_8, ())
 (sumOf
 (List.drop (Int.toNat a)
 (List.take
 (Int.toNat
 (IntKind.wrap IntKind.i64
 (a +
 List.getD x.snd.fst (Int.toNat a_1)
 (Ty.dflt t3))))
 x.fst)))).snd.snd.fst =
 (addS (a_2, a_3, a_4, a_5, a_6, a_7, a_8, ())
 (sumOf
 (List.drop (Int.toNat a)
 (List.take
 (Int.toNat
 (IntKind.wrap IntKind.i64
 (a +
 List.getD x.snd.fst (Int.toNat a_1)
 (Ty.dflt t3))))
 x.fst)))).snd.snd.fst ∧
 (addS (a_2, a_3, a_4, a_5, a_6, a_7, a_8, ())
 (sumOf
 (List.drop (Int.toNat a)
 (List.take
 (Int.toNat
 (IntKind.wrap IntKind.i64
 (a +
 List.getD x.snd.fst (Int.toNat a_1)
 (Ty.dflt t3))))
 x.fst)))).snd.snd.snd.fst =
 (addS (a_2, a_3, a_4, a_5, a_6, a_7, a_8, ())
 (sumOf
 (List.drop (Int.toNat a)
 (List.take
 (Int.toNat
 (IntKind.wrap IntKind.i64
 (a +
 List.getD x.snd.fst (Int.toNat a_1)
 (Ty.dflt t3))))
 x.fst)))).snd.snd.snd.fst ∧
 (addS (a_2, a_3, a_4, a_5, a_6, a_7, a_8, ())
 (sumOf
 (List.drop (Int.toNat a)
 (List.take
 (Int.toNat
 (IntKind.wrap IntKind.i64
 (a +
 List.getD x.snd.fst (Int.toNat a_1)
 (Ty.dflt t3))))
 x.fst)))).snd.snd.snd.snd.fst =
 (addS (a_2, a_3, a_4, a_5, a_6, a_7, a_8, ())
 (sumOf
 (List.drop (Int.toNat a)
 (List.take
 (Int.toNat
 (IntKind.wrap IntKind.i64
 (a +
 List.getD x.snd.fst (Int.toNat a_1)
 (Ty.dflt t3))))
 x.fst)))).snd.snd.snd.snd.fst ∧
 (addS (a_2, a_3, a_4, a_5, a_6, a_7, a_8, ())
 (sumOf
 (List.drop (Int.toNat a)
 (List.take
 (Int.toNat
 (IntKind.wrap IntKind.i64
 (a +
 List.getD x.snd.fst
 (Int.toNat a_1)
 (Ty.dflt t3))))
 x.fst)))).snd.snd.snd.snd.snd.fst =
 (addS (a_2, a_3, a_4, a_5, a_6, a_7, a_8, ())
 (sumOf
 (List.drop (Int.toNat a)
 (List.take
 (Int.toNat
 (IntKind.wrap IntKind.i64
 (a +
 List.getD x.snd.fst
 (Int.toNat a_1)
 (Ty.dflt t3))))
 x.fst)))).snd.snd.snd.snd.snd.fst ∧
 (addS (a_2, a_3, a_4, a_5, a_6, a_7, a_8, ())
 (sumOf
 (List.drop (Int.toNat a)
 (List.take
 (Int.toNat
 (IntKind.wrap IntKind.i64
 (a +
 List.getD x.snd.fst
 (Int.toNat a_1)
 (Ty.dflt t3))))
 x.fst)))).snd.snd.snd.snd.snd.snd.fst =
 (addS (a_2, a_3, a_4, a_5, a_6, a_7, a_8, ())
 (sumOf
 (List.drop (Int.toNat a)
 (List.take
 (Int.toNat
 (IntKind.wrap IntKind.i64
 (a +
 List.getD x.snd.fst
 (Int.toNat a_1)
 (Ty.dflt t3))))
 x.fst)))).snd.snd.snd.snd.snd.snd.fst) ∧
 Z
 (IntKind.wrap IntKind.i64
 (a + List.getD x.snd.fst (Int.toNat a_1) (Ty.dflt t3)),
 IntKind.wrap IntKind.i64 (a_1 + (1 : Int)),
 addS (a_2, a_3, a_4, a_5, a_6, a_7, a_8, ())
 (sumOf
 (List.drop (Int.toNat a)
 (List.take
 (Int.toNat
 (IntKind.wrap IntKind.i64
 (a + List.getD x.snd.fst (Int.toNat a_1) (Ty.dflt t3))))
 x.fst)))) ∧
 μ
 (IntKind.wrap IntKind.i64
 (a + List.getD x.snd.fst (Int.toNat a_1) (Ty.dflt t3)),
 IntKind.wrap IntKind.i64 (a_1 + (1 : Int)),
 addS (a_2, a_3, a_4, a_5, a_6, a_7, a_8, ())
 (sumOf
 (List.drop (Int.toNat a)
 (List.take
 (Int.toNat
 (IntKind.wrap IntKind.i64
 (a +
 List.getD x.snd.fst (Int.toNat a_1) (Ty.dflt t3))))
 x.fst)))) <
 μ (a, a_1, a_2, a_3, a_4, a_5, a_6, a_7, a_8, ())))) ∧
 (decide (a_1 < (↑(List.length x.snd.fst) : Int)) = false →
 ((0 : Int) ≤ a ∧ a ≤ (↑(List.length x.fst) : Int)) ∧
 List.length (List.drop (Int.toNat a) x.fst) ≤ (1000000000 : Nat) ∧
 (okSum (a_2, a_3, a_4, a_5, a_6, a_7, a_8, ()) ∧
 okSum (sumOf (List.drop (Int.toNat a) x.fst))) ∧
 List.length x.fst ≤ (1000000000 : Nat) ∧
 (Ty.beq t25
 (addS (a_2, a_3, a_4, a_5, a_6, a_7, a_8, ())
 (sumOf (List.drop (Int.toNat a) x.fst)))
 (sumOf x.fst) =
 true →
 True ∧
 List.length x.fst ≤ (1000000000 : Nat) ∧
 (Ty.beq t27
 (addS (a_2, a_3, a_4, a_5, a_6, a_7, a_8, ())
 (sumOf (List.drop (Int.toNat a) x.fst)))
 (refSum x.fst) =
 true →
 True ∧ true = true) ∧
 (Ty.beq t27
 (addS (a_2, a_3, a_4, a_5, a_6, a_7, a_8, ())
 (sumOf (List.drop (Int.toNat a) x.fst)))
 (refSum x.fst) =
 false →
 false = true)) ∧
 (Ty.beq t25
 (addS (a_2, a_3, a_4, a_5, a_6, a_7, a_8, ())
 (sumOf (List.drop (Int.toNat a) x.fst)))
 (sumOf x.fst) =
 false →
 false = true))))
theorem vcEq6 : fnVC E6 Tryd.f6 (bodyOf Tryd.f6) cSumsPieces = vc6 := by kernel_rfl
/- fn 7 -/
def hs7 : List (Nat × Nat × Hint) := []
def nm7 : List Nat := []
noncomputable def E7 : Env := env tab [(8, cOf)] [] gl hs7 nm7
def vc7 : Prop :=
 ∀ (x : Unit),
 True →
 List.length [(97 : Int), (98 : Int), (10 : Int), (99 : Int)] ≤ (1000000000 : Nat) ∧
 Ty.beq t25 (sumOf [(97 : Int), (98 : Int), (10 : Int), (99 : Int)])
 ((4 : Int), (4 : Int), (1 : Int), (2 : Int), (1 : Int), (2 : Int), (0 : Int), ()) =
 true
theorem vcEq7 : fnVC E7 Tryd.f7 (bodyOf Tryd.f7) cTwo = vc7 := by kernel_rfl
/- fn 8 -/
def hs8 : List (Nat × Nat × Hint) := [(0, 4, ⟨[.slot 10 t3, .cell 3 0 t3, .cell 3 1 t3, .cell 3 2 t3, .cell 3 3 t3, .cell 3 4 t3, .cell 3 5 t3, .cell 3 6 t3], [2, 3, 4, 8, 9], [2, 3], []⟩)]
def nm8 : List Nat := []
noncomputable def E8 : Env := env tab [(14, cSize)] [(13, Tryd.f13)] gl hs8 nm8
def vc8 : Prop :=
 ∀ (x : List Int × Unit),
 List.length x.fst ≤ (1000000000 : Nat) →
 (((0 : Int) = (0 : Int) ∧
 True ∧ True ∧ True ∧ x.fst = x.fst ∧ (↑(List.length x.fst) : Int) = (↑(List.length x.fst) : Int)) ∧
 ((0 : Int) = (0 : Int) ∧
 (0 : Int) = (0 : Int) ∧
 (0 : Int) = (0 : Int) ∧
 (0 : Int) = (0 : Int) ∧ (0 : Int) = (0 : Int) ∧ (0 : Int) = (0 : Int) ∧ (0 : Int) = (0 : Int)) ∧
 (0 : Int) = (0 : Int) ∧
 (0 : Int) = (0 : Int) ∧
 (0 : Int) = (0 : Int) ∧
 (0 : Int) = (0 : Int) ∧ (0 : Int) = (0 : Int) ∧ (0 : Int) = (0 : Int) ∧ (0 : Int) = (0 : Int)) ∧
 ∃ (Z : Int × Int × Int × Int × Int × Int × Int × Int × Unit → Prop),
 ∃ (μ : Int × Int × Int × Int × Int × Int × Int × Int × Unit → Nat),
 Z ((0 : Int), (0 : Int), (0 : Int), (0 : Int), (0 : Int), (0 : Int), (0 : Int), (0 : Int), ()) ∧
 ∀ (a a_1 a_2 a_3 a_4 a_5 a_6 a_7 : Int),
 Z (a, a_1, a_2, a_3, a_4, a_5, a_6, a_7, ()) →
 (decide (a < (↑(List.length x.fst) : Int)) = true →
 ((0 : Int) ≤ a ∧ a < (↑(List.length x.fst) : Int)) ∧
 True ∧
 ((List.getD x.fst (Int.toNat a) (Ty.dflt t21) != (10 : Int)) = true →
 ((IntKind.wrap IntKind.i64 (a + (1 : Int)) = IntKind.wrap IntKind.i64 (a + (1 : Int)) ∧
 True ∧
 True ∧
 True ∧
 x.fst = x.fst ∧ (↑(List.length x.fst) : Int) = (↑(List.length x.fst) : Int)) ∧
 ((0 : Int) = (0 : Int) ∧
 (0 : Int) = (0 : Int) ∧
 (0 : Int) = (0 : Int) ∧
 (0 : Int) = (0 : Int) ∧
 (0 : Int) = (0 : Int) ∧ (0 : Int) = (0 : Int) ∧ (0 : Int) = (0 : Int)) ∧
 IntKind.wrap IntKind.i64 (a_1 + sizeR (List.getD x.fst (Int.toNat a) (Ty.dflt t21))) =
 IntKind.wrap IntKind.i64
 (a_1 + sizeR (List.getD x.fst (Int.toNat a) (Ty.dflt t21))) ∧
 IntKind.wrap IntKind.i64 (a_2 + (1 : Int)) =
 IntKind.wrap IntKind.i64 (a_2 + (1 : Int)) ∧
 a_3 = a_3 ∧
 a_4 = a_4 ∧
 IntKind.wrap IntKind.i64 (a_5 + (1 : Int)) =
 IntKind.wrap IntKind.i64 (a_5 + (1 : Int)) ∧
 a_6 = a_6 ∧ a_7 = a_7) ∧
 Z
 (IntKind.wrap IntKind.i64 (a + (1 : Int)),
 IntKind.wrap IntKind.i64
 (a_1 + sizeR (List.getD x.fst (Int.toNat a) (Ty.dflt t21))),
 IntKind.wrap IntKind.i64 (a_2 + (1 : Int)), a_3, a_4,
 IntKind.wrap IntKind.i64 (a_5 + (1 : Int)), a_6, a_7, ()) ∧
 μ
 (IntKind.wrap IntKind.i64 (a + (1 : Int)),
 IntKind.wrap IntKind.i64
 (a_1 + sizeR (List.getD x.fst (Int.toNat a) (Ty.dflt t21))),
 IntKind.wrap IntKind.i64 (a_2 + (1 : Int)), a_3, a_4,
 IntKind.wrap IntKind.i64 (a_5 + (1 : Int)), a_6, a_7, ()) <
 μ (a, a_1, a_2, a_3, a_4, a_5, a_6, a_7, ())) ∧
 ((List.getD x.fst (Int.toNat a) (Ty.dflt t21) != (10 : Int)) = false →
 (decide (a_5 > a_6) = true →
 ((a_3 == (0 : Int)) = true →
 ((IntKind.wrap IntKind.i64 (a + (1 : Int)) =
 IntKind.wrap IntKind.i64 (a + (1 : Int)) ∧
 True ∧
 True ∧
 True ∧
 x.fst = x.fst ∧
 (↑(List.length x.fst) : Int) = (↑(List.length x.fst) : Int)) ∧
 ((0 : Int) = (0 : Int) ∧
 (0 : Int) = (0 : Int) ∧
 (0 : Int) = (0 : Int) ∧
 (0 : Int) = (0 : Int) ∧
 (0 : Int) = (0 : Int) ∧
 (0 : Int) = (0 : Int) ∧ (0 : Int) = (0 : Int)) ∧
 IntKind.wrap IntKind.i64
 (a_1 + sizeR (List.getD x.fst (Int.toNat a) (Ty.dflt t21))) =
 IntKind.wrap IntKind.i64
 (a_1 + sizeR (List.getD x.fst (Int.toNat a) (Ty.dflt t21))) ∧
 IntKind.wrap IntKind.i64 (a_2 + (1 : Int)) =
 IntKind.wrap IntKind.i64 (a_2 + (1 : Int)) ∧
 IntKind.wrap IntKind.i64 (a_3 + (1 : Int)) =
 IntKind.wrap IntKind.i64 (a_3 + (1 : Int)) ∧
 a_5 = a_5 ∧ (0 : Int) = (0 : Int) ∧ a_5 = a_5 ∧ a_3 = a_3) ∧
 Z
 (IntKind.wrap IntKind.i64 (a + (1 : Int)),
 IntKind.wrap IntKind.i64
 (a_1 + sizeR (List.getD x.fst (Int.toNat a) (Ty.dflt t21))),
 IntKind.wrap IntKind.i64 (a_2 + (1 : Int)),
 IntKind.wrap IntKind.i64 (a_3 + (1 : Int)), a_5, (0 : Int), a_5, a_3, ()) ∧
 μ
 (IntKind.wrap IntKind.i64 (a + (1 : Int)),
 IntKind.wrap IntKind.i64
 (a_1 + sizeR (List.getD x.fst (Int.toNat a) (Ty.dflt t21))),
 IntKind.wrap IntKind.i64 (a_2 + (1 : Int)),
 IntKind.wrap IntKind.i64 (a_3 + (1 : Int)), a_5, (0 : Int), a_5, a_3,
 ()) <
 μ (a, a_1, a_2, a_3, a_4, a_5, a_6, a_7, ())) ∧
 ((a_3 == (0 : Int)) = false →
 ((IntKind.wrap IntKind.i64 (a + (1 : Int)) =
 IntKind.wrap IntKind.i64 (a + (1 : Int)) ∧
 True ∧
 True ∧
 True ∧
 x.fst = x.fst ∧
 (↑(List.length x.fst) : Int) = (↑(List.length x.fst) : Int)) ∧
 ((0 : Int) = (0 : Int) ∧
 (0 : Int) = (0 : Int) ∧
 (0 : Int) = (0 : Int) ∧
 (0 : Int) = (0 : Int) ∧
 (0 : Int) = (0 : Int) ∧
 (0 : Int) = (0 : Int) ∧ (0 : Int) = (0 : Int)) ∧
 IntKind.wrap IntKind.i64
 (a_1 + sizeR (List.getD x.fst (Int.toNat a) (Ty.dflt t21))) =
 IntKind.wrap IntKind.i64
 (a_1 + sizeR (List.getD x.fst (Int.toNat a) (Ty.dflt t21))) ∧
 IntKind.wrap IntKind.i64 (a_2 + (1 : Int)) =
 IntKind.wrap IntKind.i64 (a_2 + (1 : Int)) ∧
 IntKind.wrap IntKind.i64 (a_3 + (1 : Int)) =
 IntKind.wrap IntKind.i64 (a_3 + (1 : Int)) ∧
 a_4 = a_4 ∧ (0 : Int) = (0 : Int) ∧ a_5 = a_5 ∧ a_3 = a_3) ∧
 Z
 (IntKind.wrap IntKind.i64 (a + (1 : Int)),
 IntKind.wrap IntKind.i64
 (a_1 + sizeR (List.getD x.fst (Int.toNat a) (Ty.dflt t21))),
 IntKind.wrap IntKind.i64 (a_2 + (1 : Int)),
 IntKind.wrap IntKind.i64 (a_3 + (1 : Int)), a_4, (0 : Int), a_5, a_3, ()) ∧
 μ
 (IntKind.wrap IntKind.i64 (a + (1 : Int)),
 IntKind.wrap IntKind.i64
 (a_1 + sizeR (List.getD x.fst (Int.toNat a) (Ty.dflt t21))),
 IntKind.wrap IntKind.i64 (a_2 + (1 : Int)),
 IntKind.wrap IntKind.i64 (a_3 + (1 : Int)), a_4, (0 : Int), a_5, a_3,
 ()) <
 μ (a, a_1, a_2, a_3, a_4, a_5, a_6, a_7, ()))) ∧
 (decide (a_5 > a_6) = false →
 ((a_3 == (0 : Int)) = true →
 ((IntKind.wrap IntKind.i64 (a + (1 : Int)) =
 IntKind.wrap IntKind.i64 (a + (1 : Int)) ∧
 True ∧
 True ∧
 True ∧
 x.fst = x.fst ∧
 (↑(List.length x.fst) : Int) = (↑(List.length x.fst) : Int)) ∧
 ((0 : Int) = (0 : Int) ∧
 (0 : Int) = (0 : Int) ∧
 (0 : Int) = (0 : Int) ∧
 (0 : Int) = (0 : Int) ∧
 (0 : Int) = (0 : Int) ∧
 (0 : Int) = (0 : Int) ∧ (0 : Int) = (0 : Int)) ∧
 IntKind.wrap IntKind.i64
 (a_1 + sizeR (List.getD x.fst (Int.toNat a) (Ty.dflt t21))) =
 IntKind.wrap IntKind.i64
 (a_1 + sizeR (List.getD x.fst (Int.toNat a) (Ty.dflt t21))) ∧
 IntKind.wrap IntKind.i64 (a_2 + (1 : Int)) =
 IntKind.wrap IntKind.i64 (a_2 + (1 : Int)) ∧
 IntKind.wrap IntKind.i64 (a_3 + (1 : Int)) =
 IntKind.wrap IntKind.i64 (a_3 + (1 : Int)) ∧
 a_5 = a_5 ∧ (0 : Int) = (0 : Int) ∧ a_6 = a_6 ∧ a_7 = a_7) ∧
 Z
 (IntKind.wrap IntKind.i64 (a + (1 : Int)),
 IntKind.wrap IntKind.i64
 (a_1 + sizeR (List.getD x.fst (Int.toNat a) (Ty.dflt t21))),
 IntKind.wrap IntKind.i64 (a_2 + (1 : Int)),
 IntKind.wrap IntKind.i64 (a_3 + (1 : Int)), a_5, (0 : Int), a_6, a_7, ()) ∧
 μ
 (IntKind.wrap IntKind.i64 (a + (1 : Int)),
 IntKind.wrap IntKind.i64
 (a_1 + sizeR (List.getD x.fst (Int.toNat a) (Ty.dflt t21))),
 IntKind.wrap IntKind.i64 (a_2 + (1 : Int)),
 IntKind.wrap IntKind.i64 (a_3 + (1 : Int)), a_5, (0 : Int), a_6, a_7,
 ()) <
 μ (a, a_1, a_2, a_3, a_4, a_5, a_6, a_7, ())) ∧
 ((a_3 == (0 : Int)) = false →
 ((IntKind.wrap IntKind.i64 (a + (1 : Int)) =
 IntKind.wrap IntKind.i64 (a + (1 : Int)) ∧
 True ∧
 True ∧
 True ∧
 x.fst = x.fst ∧
 (↑(List.length x.fst) : Int) = (↑(List.length x.fst) : Int)) ∧
 ((0 : Int) = (0 : Int) ∧
 (0 : Int) = (0 : Int) ∧
 (0 : Int) = (0 : Int) ∧
 (0 : Int) = (0 : Int) ∧
 (0 : Int) = (0 : Int) ∧
 (0 : Int) = (0 : Int) ∧ (0 : Int) = (0 : Int)) ∧
 IntKind.wrap IntKind.i64
 (a_1 + sizeR (List.getD x.fst (Int.toNat a) (Ty.dflt t21))) =
 IntKind.wrap IntKind.i64
 (a_1 + sizeR (List.getD x.fst (Int.toNat a) (Ty.dflt t21))) ∧
 IntKind.wrap IntKind.i64 (a_2 + (1 : Int)) =
 IntKind.wrap IntKind.i64 (a_2 + (1 : Int)) ∧
 IntKind.wrap IntKind.i64 (a_3 + (1 : Int)) =
 IntKind.wrap IntKind.i64 (a_3 + (1 : Int)) ∧
 a_4 = a_4 ∧ (0 : Int) = (0 : Int) ∧ a_6 = a_6 ∧ a_7 = a_7) ∧
 Z
 (IntKind.wrap IntKind.i64 (a + (1 : Int)),
 IntKind.wrap IntKind.i64
 (a_1 + sizeR (List.getD x.fst (Int.toNat a) (Ty.dflt t21))),
 IntKind.wrap IntKind.i64 (a_2 + (1 : Int)),
 IntKind.wrap IntKind.i64 (a_3 + (1 : Int)), a_4, (0 : Int), a_6, a_7, ()) ∧
 μ
 (IntKind.wrap IntKind.i64 (a + (1 : Int)),
 IntKind.wrap IntKind.i64
 (a_1 + sizeR (List.getD x.fst (Int.toNat a) (Ty.dflt t21))),
 IntKind.wrap IntKind.i64 (a_2 + (1 : Int)),
 IntKind.wrap IntKind.i64 (a_3 + (1 : Int)), a_4, (0 : Int), a_6, a_7,
 ()) <
 μ (a, a_1, a_2, a_3, a_4, a_5, a_6, a_7, ()))))) ∧
 (decide (a < (↑(List.length x.fst) : Int)) = false →
 (decide (a_5 > a_6) = true →
 ((a_3 == (0 : Int)) = true → (a_1, a_2, a_3, a_5, a_5, a_5, a_3, ()) = sumOf x.fst) ∧
 ((a_3 == (0 : Int)) = false → (a_1, a_2, a_3, a_4, a_5, a_5, a_3, ()) = sumOf x.fst)) ∧
 (decide (a_5 > a_6) = false →
 ((a_3 == (0 : Int)) = true → (a_1, a_2, a_3, a_5, a_5, a_6, a_7, ()) = sumOf x.fst) ∧
 ((a_3 == (0 : Int)) = false → (a_1, a_2, a_3, a_4, a_5, a_6, a_7, ()) = sumOf x.fst)))
theorem vcEq8 : fnVC E8 Tryd.f8 (bodyOf Tryd.f8) cOf = vc8 := by kernel_rfl
/- fn 9 -/
def hs9 : List (Nat × Nat × Hint) := []
def nm9 : List Nat := []
noncomputable def E9 : Env := env tab [] [] gl hs9 nm9
def vc9 : Prop :=
 ∀ (x : (Int × Int × Int × Int × Int × Int × Int × Unit) × Unit), True → x.fst = x.fst
theorem vcEq9 : fnVC E9 Tryd.f9 (bodyOf Tryd.f9) cRef = vc9 := by kernel_rfl
/- fn 10 -/
def hs10 : List (Nat × Nat × Hint) := [(0, 4, ⟨[.slot 29 t3, .cell 4 5 t3, .cell 4 6 t3], [2, 4, 27, 28], [2, 4], []⟩)]
def nm10 : List Nat := []
noncomputable def E10 : Env := env tab [(15, cLines), (16, cEncode)] [] gl hs10 nm10
def vc10 : Prop :=
 ∀ (x : List Int × Unit),
 List.length x.fst ≤ (1000000000 : Nat) →
 List.length x.fst ≤ (1000000000 : Nat) ∧
 List.length x.fst ≤ (1000000000 : Nat) ∧
 ((0 : Int) ≤ (0 : Int) ∧ (0 : Int) < (↑(List.length (linesOf x.fst)) : Int)) ∧
 ((0 : Int) ≤ IntKind.wrap IntKind.i64 ((↑(List.length (linesOf x.fst)) : Int) - (1 : Int)) ∧
 IntKind.wrap IntKind.i64 ((↑(List.length (linesOf x.fst)) : Int) - (1 : Int)) <
 (↑(List.length (linesOf x.fst)) : Int)) ∧
 (((0 : Int) = (0 : Int) ∧
 True ∧
 True ∧
 linesOf x.fst = linesOf x.fst ∧
 (↑(List.length (linesOf x.fst)) : Int) = (↑(List.length (linesOf x.fst)) : Int)) ∧
 ((0 : Int) = (0 : Int) ∧
 (0 : Int) = (0 : Int) ∧
 (0 : Int) = (0 : Int) ∧
 (0 : Int) = (0 : Int) ∧ (0 : Int) = (0 : Int) ∧ (0 : Int) = (0 : Int) ∧ (0 : Int) = (0 : Int)) ∧
 (↑(ByteArray.size (encode x.fst)) : Int) = (↑(ByteArray.size (encode x.fst)) : Int) ∧
 (↑(List.length x.fst) : Int) = (↑(List.length x.fst) : Int) ∧
 IntKind.wrap IntKind.i64 ((↑(List.length (linesOf x.fst)) : Int) - (1 : Int)) =
 IntKind.wrap IntKind.i64 ((↑(List.length (linesOf x.fst)) : Int) - (1 : Int)) ∧
 List.getD (linesOf x.fst) (Int.toNat (0 : Int)) (Ty.dflt t3) =
 List.getD (linesOf x.fst) (Int.toNat (0 : Int)) (Ty.dflt t3) ∧
 List.getD (linesOf x.fst)
 (Int.toNat
 (IntKind.wrap IntKind.i64 ((↑(List.length (linesOf x.fst)) : Int) - (1 : Int))))
 (Ty.dflt t3) =
 List.getD (linesOf x.fst)
 (Int.toNat
 (IntKind.wrap IntKind.i64 ((↑(List.length (linesOf x.fst)) : Int) - (1 : Int))))
 (Ty.dflt t3) ∧
 (0 : Int) = (0 : Int) ∧ (0 : Int) = (0 : Int)) ∧
 ∃ (Z : Int × Int × Int × Unit → Prop),
 ∃ (μ : Int × Int × Int × Unit → Nat),
 Z ((0 : Int), (0 : Int), (0 : Int), ()) ∧
 ∀ (a a_1 a_2 : Int),
 Z (a, a_1, a_2, ()) →
 (decide (a < (↑(List.length (linesOf x.fst)) : Int)) = true →
 ((0 : Int) ≤ a ∧ a < (↑(List.length (linesOf x.fst)) : Int)) ∧
 (decide (List.getD (linesOf x.fst) (Int.toNat a) (Ty.dflt t3) > a_1) = true →
 ((IntKind.wrap IntKind.i64 (a + (1 : Int)) =
 IntKind.wrap IntKind.i64 (a + (1 : Int)) ∧
 True ∧
 True ∧
 linesOf x.fst = linesOf x.fst ∧
 (↑(List.length (linesOf x.fst)) : Int) =
 (↑(List.length (linesOf x.fst)) : Int)) ∧
 ((0 : Int) = (0 : Int) ∧
 (0 : Int) = (0 : Int) ∧
 (0 : Int) = (0 : Int) ∧
 (0 : Int) = (0 : Int) ∧
 (0 : Int) = (0 : Int) ∧ (0 : Int) = (0 : Int) ∧ (0 : Int) = (0 : Int)) ∧
 (↑(ByteArray.size (encode x.fst)) : Int) =
 (↑(ByteArray.size (encode x.fst)) : Int) ∧
 (↑(List.length x.fst) : Int) = (↑(List.length x.fst) : Int) ∧
 IntKind.wrap IntKind.i64
 ((↑(List.length (linesOf x.fst)) : Int) - (1 : Int)) =
 IntKind.wrap IntKind.i64
 ((↑(List.length (linesOf x.fst)) : Int) - (1 : Int)) ∧
 List.getD (linesOf x.fst) (Int.toNat (0 : Int)) (Ty.dflt t3) =
 List.getD (linesOf x.fst) (Int.toNat (0 : Int)) (Ty.dflt t3) ∧
 List.getD (linesOf x.fst)
 (Int.toNat
 (IntKind.wrap IntKind.i64
 ((↑(List.length (linesOf x.fst)) : Int) - (1 : Int))))
 (Ty.dflt t3) =
 List.getD (linesOf x.fst)
 (Int.toNat
 (IntKind.wrap IntKind.i64
 ((↑(List.length (linesOf x.fst)) : Int) - (1 : Int))))
 (Ty.dflt t3) ∧
 List.getD (linesOf x.fst) (Int.toNat a) (Ty.dflt t3) =
 List.getD (linesOf x.fst) (Int.toNat a) (Ty.dflt t3) ∧
 a = a) ∧
 Z
 (IntKind.wrap IntKind.i64 (a + (1 : Int)),
 List.getD (linesOf x.fst) (Int.toNat a) (Ty.dflt t3), a, ()) ∧
 μ
 (IntKind.wrap IntKind.i64 (a + (1 : Int)),
 List.getD (linesOf x.fst) (Int.toNat a) (Ty.dflt t3), a, ()) <
 μ (a, a_1, a_2, ())) ∧
 (decide (List.getD (linesOf x.fst) (Int.toNat a) (Ty.dflt t3) > a_1) = false →
 ((IntKind.wrap IntKind.i64 (a + (1 : Int)) =
 IntKind.wrap IntKind.i64 (a + (1 : Int)) ∧
 True ∧
 True ∧
 linesOf x.fst = linesOf x.fst ∧
 (↑(List.length (linesOf x.fst)) : Int) =
 (↑(List.length (linesOf x.fst)) : Int)) ∧
 ((0 : Int) = (0 : Int) ∧
 (0 : Int) = (0 : Int) ∧
 (0 : Int) = (0 : Int) ∧
 (0 : Int) = (0 : Int) ∧
 (0 : Int) = (0 : Int) ∧ (0 : Int) = (0 : Int) ∧ (0 : Int) = (0 : Int)) ∧
 (↑(ByteArray.size (encode x.fst)) : Int) =
 (↑(ByteArray.size (encode x.fst)) : Int) ∧
 (↑(List.length x.fst) : Int) = (↑(List.length x.fst) : Int) ∧
 IntKind.wrap IntKind.i64
 ((↑(List.length (linesOf x.fst)) : Int) - (1 : Int)) =
 IntKind.wrap IntKind.i64
 ((↑(List.length (linesOf x.fst)) : Int) - (1 : Int)) ∧
 List.getD (linesOf x.fst) (Int.toNat (0 : Int)) (Ty.dflt t3) =
 List.getD (linesOf x.fst) (Int.toNat (0 : Int)) (Ty.dflt t3) ∧
 List.getD (linesOf x.fst)
 (Int.toNat
 (IntKind.wrap IntKind.i64
 ((↑(List.length (linesOf x.fst)) : Int) - (1 : Int))))
 (Ty.dflt t3) =
 List.getD (linesOf x.fst)
 (Int.toNat
 (IntKind.wrap IntKind.i64
 ((↑(List.length (linesOf x.fst)) : Int) - (1 : Int))))
 (Ty.dflt t3) ∧
 a_1 = a_1 ∧ a_2 = a_2) ∧
 Z (IntKind.wrap IntKind.i64 (a + (1 : Int)), a_1, a_2, ()) ∧
 μ (IntKind.wrap IntKind.i64 (a + (1 : Int)), a_1, a_2, ()) <
 μ (a, a_1, a_2, ()))) ∧
 (decide (a < (↑(List.length (linesOf x.fst)) : Int)) = false →
 ((↑(ByteArray.size (encode x.fst)) : Int), (↑(List.length x.fst) : Int),
 IntKind.wrap IntKind.i64 ((↑(List.length (linesOf x.fst)) : Int) - (1 : Int)),
 List.getD (linesOf x.fst) (Int.toNat (0 : Int)) (Ty.dflt t3),
 List.getD (linesOf x.fst)
 (Int.toNat
 (IntKind.wrap IntKind.i64 ((↑(List.length (linesOf x.fst)) : Int) - (1 : Int))))
 (Ty.dflt t3),
 a_1, a_2, ()) =
 refSum x.fst)
theorem vcEq10 : fnVC E10 Tryd.f10 (bodyOf Tryd.f10) cRefOf = vc10 := by kernel_rfl
/- fn 11 -/
def hs11 : List (Nat × Nat × Hint) := []
def nm11 : List Nat := []
noncomputable def E11 : Env := env tab [] [] gl hs11 nm11
def vc11 : Prop :=
 ∀ (x : (Int × Int × Int × Int × Int × Int × Int × Unit) × Unit),
 True → (x.fst.snd.snd.fst, x.fst.snd.snd.snd.snd.fst, ()) = (x.fst.snd.snd.fst, x.fst.snd.snd.snd.snd.fst, ())
theorem vcEq11 : fnVC E11 Tryd.f11 (bodyOf Tryd.f11) cEnd = vc11 := by kernel_rfl
/- fn 12 -/
def hs12 : List (Nat × Nat × Hint) := []
def nm12 : List Nat := []
noncomputable def E12 : Env := env tab [] [] gl hs12 nm12
def vc12 : Prop :=
 ∀ (x : (Int × Int × Int × Int × Int × Int × Int × Unit) × (Int × Int × Int × Int × Int × Int × Int × Unit) × Unit),
 okSum x.fst ∧ okSum x.snd.fst →
 ((x.fst.snd.snd.fst == (0 : Int)) = true →
 ((x.snd.fst.snd.snd.fst == (0 : Int)) = true →
 (decide
 (IntKind.wrap IntKind.i64 (x.fst.snd.snd.snd.snd.fst + x.snd.fst.snd.snd.snd.fst) >
 x.fst.snd.snd.snd.snd.snd.fst) =
 true →
 (decide
 (x.snd.fst.snd.snd.snd.snd.snd.fst >
 IntKind.wrap IntKind.i64 (x.fst.snd.snd.snd.snd.fst + x.snd.fst.snd.snd.snd.fst)) =
 true →
 (IntKind.wrap IntKind.i64 (x.fst.fst + x.snd.fst.fst),
 IntKind.wrap IntKind.i64 (x.fst.snd.fst + x.snd.fst.snd.fst),
 IntKind.wrap IntKind.i64 (x.fst.snd.snd.fst + x.snd.fst.snd.snd.fst),
 IntKind.wrap IntKind.i64 (x.fst.snd.snd.snd.fst + x.snd.fst.snd.snd.snd.fst),
 IntKind.wrap IntKind.i64 (x.snd.fst.snd.snd.snd.snd.fst + x.fst.snd.snd.snd.snd.fst),
 x.snd.fst.snd.snd.snd.snd.snd.fst,
 IntKind.wrap IntKind.i64 (x.fst.snd.snd.fst + x.snd.fst.snd.snd.snd.snd.snd.snd.fst), ()) =
 addS x.fst x.snd.fst) ∧
 (decide
 (x.snd.fst.snd.snd.snd.snd.snd.fst >
 IntKind.wrap IntKind.i64 (x.fst.snd.snd.snd.snd.fst + x.snd.fst.snd.snd.snd.fst)) =
 false →
 (IntKind.wrap IntKind.i64 (x.fst.fst + x.snd.fst.fst),
 IntKind.wrap IntKind.i64 (x.fst.snd.fst + x.snd.fst.snd.fst),
 IntKind.wrap IntKind.i64 (x.fst.snd.snd.fst + x.snd.fst.snd.snd.fst),
 IntKind.wrap IntKind.i64 (x.fst.snd.snd.snd.fst + x.snd.fst.snd.snd.snd.fst),
 IntKind.wrap IntKind.i64 (x.snd.fst.snd.snd.snd.snd.fst + x.fst.snd.snd.snd.snd.fst),
 IntKind.wrap IntKind.i64 (x.fst.snd.snd.snd.snd.fst + x.snd.fst.snd.snd.snd.fst),
 x.fst.snd.snd.fst, ()) =
 addS x.fst x.snd.fst)) ∧
 (decide
 (IntKind.wrap IntKind.i64 (x.fst.snd.snd.snd.snd.fst + x.snd.fst.snd.snd.snd.fst) >
 x.fst.snd.snd.snd.snd.snd.fst) =
 false →
 (decide (x.snd.fst.snd.snd.snd.snd.snd.fst > x.fst.snd.snd.snd.snd.snd.fst) = true →
 (IntKind.wrap IntKind.i64 (x.fst.fst + x.snd.fst.fst),
 IntKind.wrap IntKind.i64 (x.fst.snd.fst + x.snd.fst.snd.fst),
 IntKind.wrap IntKind.i64 (x.fst.snd.snd.fst + x.snd.fst.snd.snd.fst),
 IntKind.wrap IntKind.i64 (x.fst.snd.snd.snd.fst + x.snd.fst.snd.snd.snd.fst),
 IntKind.wrap IntKind.i64 (x.snd.fst.snd.snd.snd.snd.fst + x.fst.snd.snd.snd.snd.fst),
 x.snd.fst.snd.snd.snd.snd.snd.fst,
 IntKind.wrap IntKind.i64 (x.fst.snd.snd.fst + x.snd.fst.snd.snd.snd.snd.snd.snd.fst), ()) =
 addS x.fst x.snd.fst) ∧
 (decide (x.snd.fst.snd.snd.snd.snd.snd.fst > x.fst.snd.snd.snd.snd.snd.fst) = false →
 (IntKind.wrap IntKind.i64 (x.fst.fst + x.snd.fst.fst),
 IntKind.wrap IntKind.i64 (x.fst.snd.fst + x.snd.fst.snd.fst),
 IntKind.wrap IntKind.i64 (x.fst.snd.snd.fst + x.snd.fst.snd.snd.fst),
 IntKind.wrap IntKind.i64 (x.fst.snd.snd.snd.fst + x.snd.fst.snd.snd.snd.fst),
 IntKind.wrap IntKind.i64 (x.snd.fst.snd.snd.snd.snd.fst + x.fst.snd.snd.snd.snd.fst),
 x.fst.snd.snd.snd.snd.snd) =
 addS x.fst x.snd.fst))) ∧
 ((x.snd.fst.snd.snd.fst == (0 : Int)) = false →
 (decide
 (IntKind.wrap IntKind.i64 (x.fst.snd.snd.snd.snd.fst + x.snd.fst.snd.snd.snd.fst) >
 x.fst.snd.snd.snd.snd.snd.fst) =
 true →
 (decide
 (x.snd.fst.snd.snd.snd.snd.snd.fst >
 IntKind.wrap IntKind.i64 (x.fst.snd.snd.snd.snd.fst + x.snd.fst.snd.snd.snd.fst)) =
 true →
 (IntKind.wrap IntKind.i64 (x.fst.fst + x.snd.fst.fst),
 IntKind.wrap IntKind.i64 (x.fst.snd.fst + x.snd.fst.snd.fst),
 IntKind.wrap IntKind.i64 (x.fst.snd.snd.fst + x.snd.fst.snd.snd.fst),
 IntKind.wrap IntKind.i64 (x.fst.snd.snd.snd.fst + x.snd.fst.snd.snd.snd.fst),
 x.snd.fst.snd.snd.snd.snd.fst, x.snd.fst.snd.snd.snd.snd.snd.fst,
 IntKind.wrap IntKind.i64 (x.fst.snd.snd.fst + x.snd.fst.snd.snd.snd.snd.snd.snd.fst), ()) =
 addS x.fst x.snd.fst) ∧
 (decide
 (x.snd.fst.snd.snd.snd.snd.snd.fst >
 IntKind.wrap IntKind.i64 (x.fst.snd.snd.snd.snd.fst + x.snd.fst.snd.snd.snd.fst)) =
 false →
 (IntKind.wrap IntKind.i64 (x.fst.fst + x.snd.fst.fst),
 IntKind.wrap IntKind.i64 (x.fst.snd.fst + x.snd.fst.snd.fst),
 IntKind.wrap IntKind.i64 (x.fst.snd.snd.fst + x.snd.fst.snd.snd.fst),
 IntKind.wrap IntKind.i64 (x.fst.snd.snd.snd.fst + x.snd.fst.snd.snd.snd.fst),
 x.snd.fst.snd.snd.snd.snd.fst,
 IntKind.wrap IntKind.i64 (x.fst.snd.snd.snd.snd.fst + x.snd.fst.snd.snd.snd.fst),
 x.fst.snd.snd.fst, ()) =
 addS x.fst x.snd.fst)) ∧
 (decide
 (IntKind.wrap IntKind.i64 (x.fst.snd.snd.snd.snd.fst + x.snd.fst.snd.snd.snd.fst) >
 x.fst.snd.snd.snd.snd.snd.fst) =
 false →
 (decide (x.snd.fst.snd.snd.snd.snd.snd.fst > x.fst.snd.snd.snd.snd.snd.fst) = true →
 (IntKind.wrap IntKind.i64 (x.fst.fst + x.snd.fst.fst),
 IntKind.wrap IntKind.i64 (x.fst.snd.fst + x.snd.fst.snd.fst),
 IntKind.wrap IntKind.i64 (x.fst.snd.snd.fst + x.snd.fst.snd.snd.fst),
 IntKind.wrap IntKind.i64 (x.fst.snd.snd.snd.fst + x.snd.fst.snd.snd.snd.fst),
 x.snd.fst.snd.snd.snd.snd.fst, x.snd.fst.snd.snd.snd.snd.snd.fst,
 IntKind.wrap IntKind.i64 (x.fst.snd.snd.fst + x.snd.fst.snd.snd.snd.snd.snd.snd.fst), ()) =
 addS x.fst x.snd.fst) ∧
 (decide (x.snd.fst.snd.snd.snd.snd.snd.fst > x.fst.snd.snd.snd.snd.snd.fst) = false →
 (IntKind.wrap IntKind.i64 (x.fst.fst + x.snd.fst.fst),
 IntKind.wrap IntKind.i64 (x.fst.snd.fst + x.snd.fst.snd.fst),
 IntKind.wrap IntKind.i64 (x.fst.snd.snd.fst + x.snd.fst.snd.snd.fst),
 IntKind.wrap IntKind.i64 (x.fst.snd.snd.snd.fst + x.snd.fst.snd.snd.snd.fst),
 x.snd.fst.snd.snd.snd.snd.fst, x.fst.snd.snd.snd.snd.snd) =
 addS x.fst x.snd.fst)))) ∧
 ((x.fst.snd.snd.fst == (0 : Int)) = false →
 ((x.snd.fst.snd.snd.fst == (0 : Int)) = true →
 (decide
 (IntKind.wrap IntKind.i64 (x.fst.snd.snd.snd.snd.fst + x.snd.fst.snd.snd.snd.fst) >
 x.fst.snd.snd.snd.snd.snd.fst) =
 true →
 (decide
 (x.snd.fst.snd.snd.snd.snd.snd.fst >
 IntKind.wrap IntKind.i64 (x.fst.snd.snd.snd.snd.fst + x.snd.fst.snd.snd.snd.fst)) =
 true →
 (IntKind.wrap IntKind.i64 (x.fst.fst + x.snd.fst.fst),
 IntKind.wrap IntKind.i64 (x.fst.snd.fst + x.snd.fst.snd.fst),
 IntKind.wrap IntKind.i64 (x.fst.snd.snd.fst + x.snd.fst.snd.snd.fst), x.fst.snd.snd.snd.fst,
 IntKind.wrap IntKind.i64 (x.snd.fst.snd.snd.snd.snd.fst + x.fst.snd.snd.snd.snd.fst),
 x.snd.fst.snd.snd.snd.snd.snd.fst,
 IntKind.wrap IntKind.i64 (x.fst.snd.snd.fst + x.snd.fst.snd.snd.snd.snd.snd.snd.fst), ()) =
 addS x.fst x.snd.fst) ∧
 (decide
 (x.snd.fst.snd.snd.snd.snd.snd.fst >
 IntKind.wrap IntKind.i64 (x.fst.snd.snd.snd.snd.fst + x.snd.fst.snd.snd.snd.fst)) =
 false →
 (IntKind.wrap IntKind.i64 (x.fst.fst + x.snd.fst.fst),
 IntKind.wrap IntKind.i64 (x.fst.snd.fst + x.snd.fst.snd.fst),
 IntKind.wrap IntKind.i64 (x.fst.snd.snd.fst + x.snd.fst.snd.snd.fst), x.fst.snd.snd.snd.fst,
 IntKind.wrap IntKind.i64 (x.snd.fst.snd.snd.snd.snd.fst + x.fst.snd.snd.snd.snd.fst),
 IntKind.wrap IntKind.i64 (x.fst.snd.snd.snd.snd.fst + x.snd.fst.snd.snd.snd.fst),
 x.fst.snd.snd.fst, ()) =
 addS x.fst x.snd.fst)) ∧
 (decide
 (IntKind.wrap IntKind.i64 (x.fst.snd.snd.snd.snd.fst + x.snd.fst.snd.snd.snd.fst) >
 x.fst.snd.snd.snd.snd.snd.fst) =
 false →
 (decide (x.snd.fst.snd.snd.snd.snd.snd.fst > x.fst.snd.snd.snd.snd.snd.fst) = true →
 (IntKind.wrap IntKind.i64 (x.fst.fst + x.snd.fst.fst),
 IntKind.wrap IntKind.i64 (x.fst.snd.fst + x.snd.fst.snd.fst),
 IntKind.wrap IntKind.i64 (x.fst.snd.snd.fst + x.snd.fst.snd.snd.fst), x.fst.snd.snd.snd.fst,
 IntKind.wrap IntKind.i64 (x.snd.fst.snd.snd.snd.snd.fst + x.fst.snd.snd.snd.snd.fst),
 x.snd.fst.snd.snd.snd.snd.snd.fst,
 IntKind.wrap IntKind.i64 (x.fst.snd.snd.fst + x.snd.fst.snd.snd.snd.snd.snd.snd.fst), ()) =
 addS x.fst x.snd.fst) ∧
 (decide (x.snd.fst.snd.snd.snd.snd.snd.fst > x.fst.snd.snd.snd.snd.snd.fst) = false →
 (IntKind.wrap IntKind.i64 (x.fst.fst + x.snd.fst.fst),
 IntKind.wrap IntKind.i64 (x.fst.snd.fst + x.snd.fst.snd.fst),
 IntKind.wrap IntKind.i64 (x.fst.snd.snd.fst + x.snd.fst.snd.snd.fst), x.fst.snd.snd.snd.fst,
 IntKind.wrap IntKind.i64 (x.snd.fst.snd.snd.snd.snd.fst + x.fst.snd.snd.snd.snd.fst),
 x.fst.snd.snd.snd.snd.snd) =
 addS x.fst x.snd.fst))) ∧
 ((x.snd.fst.snd.snd.fst == (0 : Int)) = false →
 (decide
 (IntKind.wrap IntKind.i64 (x.fst.snd.snd.snd.snd.fst + x.snd.fst.snd.snd.snd.fst) >
 x.fst.snd.snd.snd.snd.snd.fst) =
 true →
 (decide
 (x.snd.fst.snd.snd.snd.snd.snd.fst >
 IntKind.wrap IntKind.i64 (x.fst.snd.snd.snd.snd.fst + x.snd.fst.snd.snd.snd.fst)) =
 true →
 (IntKind.wrap IntKind.i64 (x.fst.fst + x.snd.fst.fst),
 IntKind.wrap IntKind.i64 (x.fst.snd.fst + x.snd.fst.snd.fst),
 IntKind.wrap IntKind.i64 (x.fst.snd.snd.fst + x.snd.fst.snd.snd.fst), x.fst.snd.snd.snd.fst,
 x.snd.fst.snd.snd.snd.snd.fst, x.snd.fst.snd.snd.snd.snd.snd.fst,
 IntKind.wrap IntKind.i64 (x.fst.snd.snd.fst + x.snd.fst.snd.snd.snd.snd.snd.snd.fst), ()) =
 addS x.fst x.snd.fst) ∧
 (decide
 (x.snd.fst.snd.snd.snd.snd.snd.fst >
 IntKind.wrap IntKind.i64 (x.fst.snd.snd.snd.snd.fst + x.snd.fst.snd.snd.snd.fst)) =
 false →
 (IntKind.wrap IntKind.i64 (x.fst.fst + x.snd.fst.fst),
 IntKind.wrap IntKind.i64 (x.fst.snd.fst + x.snd.fst.snd.fst),
 IntKind.wrap IntKind.i64 (x.fst.snd.snd.fst + x.snd.fst.snd.snd.fst), x.fst.snd.snd.snd.fst,
 x.snd.fst.snd.snd.snd.snd.fst,
 IntKind.wrap IntKind.i64 (x.fst.snd.snd.snd.snd.fst + x.snd.fst.snd.snd.snd.fst),
 x.fst.snd.snd.fst, ()) =
 addS x.fst x.snd.fst)) ∧
 (decide
 (IntKind.wrap IntKind.i64 (x.fst.snd.snd.snd.snd.fst + x.snd.fst.snd.snd.snd.fst) >
 x.fst.snd.snd.snd.snd.snd.fst) =
 false →
 (decide (x.snd.fst.snd.snd.snd.snd.snd.fst > x.fst.snd.snd.snd.snd.snd.fst) = true →
 (IntKind.wrap IntKind.i64 (x.fst.fst + x.snd.fst.fst),
 IntKind.wrap IntKind.i64 (x.fst.snd.fst + x.snd.fst.snd.fst),
 IntKind.wrap IntKind.i64 (x.fst.snd.snd.fst + x.snd.fst.snd.snd.fst), x.fst.snd.snd.snd.fst,
 x.snd.fst.snd.snd.snd.snd.fst, x.snd.fst.snd.snd.snd.snd.snd.fst,
 IntKind.wrap IntKind.i64 (x.fst.snd.snd.fst + x.snd.fst.snd.snd.snd.snd.snd.snd.fst), ()) =
 addS x.fst x.snd.fst) ∧
 (decide (x.snd.fst.snd.snd.snd.snd.snd.fst > x.fst.snd.snd.snd.snd.snd.fst) = false →
 (IntKind.wrap IntKind.i64 (x.fst.fst + x.snd.fst.fst),
 IntKind.wrap IntKind.i64 (x.fst.snd.fst + x.snd.fst.snd.fst),
 IntKind.wrap IntKind.i64 (x.fst.snd.snd.fst + x.snd.fst.snd.snd.fst), x.fst.snd.snd.snd.fst,
 x.snd.fst.snd.snd.snd.snd.fst, x.fst.snd.snd.snd.snd.snd) =
 addS x.fst x.snd.fst))))
theorem vcEq12 : fnVC E12 Tryd.f12 (bodyOf Tryd.f12) cAdd = vc12 := by kernel_rfl
/- fn 14 -/
def hs14 : List (Nat × Nat × Hint) := [(0, 4, ⟨[], [], [], [4000000000, 5]⟩),
  (150020, 4, ⟨[], [], [], [4000000000, 5]⟩),
  (300040, 4, ⟨[], [], [], [4000000000, 5]⟩),
  (450060, 4, ⟨[], [], [], [4000000000, 5]⟩),
  (600080, 4, ⟨[], [], [], [4000000000, 5]⟩),
  (750100, 4, ⟨[], [], [], [4000000000, 5]⟩),
  (900120, 4, ⟨[], [], [], [4000000000, 5]⟩),
  (1050140, 4, ⟨[], [], [], [4000000000, 5]⟩),
  (1200160, 4, ⟨[], [], [], [4000000000, 5]⟩)]
def nm14 : List Nat := []
noncomputable def E14 : Env := env tab [(17, cRight)] [(14, Tryd.f14)] gl hs14 nm14
def vc14 : Prop :=
 ∀ (x : Int × Unit),
 True →
 True ∧
 ((!right x.fst) = true →
 True ∧
 ((!right (65533 : Int)) = true →
 True ∧
 ((!right (65533 : Int)) = true →
 True ∧
 ((!right (65533 : Int)) = true →
 True ∧
 ((!right (65533 : Int)) = true →
 True ∧
 ((!right (65533 : Int)) = true →
 True ∧
 ((!right (65533 : Int)) = true →
 True ∧
 ((!right (65533 : Int)) = true →
 True ∧
 ((!right (65533 : Int)) = true → False) ∧
 ((!right (65533 : Int)) = false →
 (decide ((0 : Int) < (4 : Int)) = true →
 ((0 : Int) ≤ (0 : Int) ∧ (0 : Int) < (↑(4 : Nat) : Int)) ∧
 (decide ((65533 : Int) ≤ (127 : Int)) = true →
 IntKind.wrap IntKind.i64 ((0 : Int) + (1 : Int)) =
 sizeR x.fst) ∧
 (decide ((65533 : Int) ≤ (127 : Int)) = false →
 (decide
 (IntKind.wrap IntKind.i64
 ((0 : Int) + (1 : Int)) <
 (4 : Int)) =
 true →
 ((0 : Int) ≤
 IntKind.wrap IntKind.i64
 ((0 : Int) + (1 : Int)) ∧
 IntKind.wrap IntKind.i64
 ((0 : Int) + (1 : Int)) <
 (↑(4 : Nat) : Int)) ∧
 (decide ((65533 : Int) ≤ (2047 : Int)) =
 true →
 IntKind.wrap IntKind.i64
 (IntKind.wrap IntKind.i64
 ((0 : Int) + (1 : Int)) +
 (1 : Int)) =
 sizeR x.fst) ∧
 (decide ((65533 : Int) ≤ (2047 : Int)) =
 false →
 (decide
 (IntKind.wrap IntKind.i64
 (IntKind.wrap IntKind.i64
 ((0 : Int) + (1 : Int)) +
 (1 : Int)) <
 (4 : Int)) =
 true →
 ((0 : Int) ≤
 IntKind.wrap IntKind.i64
 (IntKind.wrap IntKind.i64
 ((0 : Int) + (1 : Int)) +
 (1 : Int)) ∧
 IntKind.wrap IntKind.i64
 (IntKind.wrap IntKind.i64
 ((0 : Int) + (1 : Int)) +
 (1 : Int)) <
 (↑(4 : Nat) : Int)) ∧
 (decide
 ((65533 : Int) ≤
 (65535 : Int)) =
 true →
 IntKind.wrap IntKind.i64
 (IntKind.wrap IntKind.i64
 (IntKind.wrap
 IntKind.i64
 ((0 : Int) +
 (1 : Int)) +
 (1 : Int)) +
 (1 : Int)) =
 sizeR x.fst) ∧
 (decide
 ((65533 : Int) ≤
 (65535 : Int)) =
 false →
 (decide
 (IntKind.wrap
 IntKind.i64
 (IntKind.wrap
 IntKind.i64
 (IntKind.wrap
 IntKind.i64
 ((0 : Int) +
 (1 :
 Int)) +
 (1 : Int)) +
 (1 : Int)) <
 (4 : Int)) =
 true →
 ((0 : Int) ≤
 IntKind.wrap
 IntKind.i64
 (IntKind.wrap
 IntKind.i64
 (IntKind.wrap
 IntKind.i64
 ((0 : Int) +
 (1 :
 Int)) +
 (1 : Int)) +
 (1 : Int)) ∧
 IntKind.wrap IntKind.i64
 (IntKind.wrap
 IntKind.i64
 (IntKind.wrap
 IntKind.i64
 ((0 : Int) +
 (1 :
 Int)) +
 (1 : Int)) +
 (1 : Int)) <
 (↑(4 : Nat) : Int)) ∧
 (decide
 ((65533 : Int) ≤
 (1114111 :
 Int)) =
 true →
 IntKind.wrap
 IntKind.i64
 (IntKind.wrap
 IntKind.i64
 (IntKind.wrap
 IntKind.i64
 (IntKind.wrap
 IntKind.i64
 ((0 :
 Int) +
 (1 :
 Int)) +
 (1 :
 Int)) +
 (1 : Int)) +
 (1 : Int)) =
 sizeR x.fst) ∧
 (decide
 ((65533 : Int) ≤
 (1114111 :
 Int)) =
 false →
 (decide
 (IntKind.wrap
 IntKind.i64
 (IntKind.wrap
 IntKind.i64
 (IntKind.wrap
 IntKind.i64
 (IntKind.wrap
 IntKind.i64
 ((0 :
 Int) +
 (1 :
 Int)) +
 (1 :
 Int)) +
 (1 :
 Int)) +
 (1 :
 Int)) <
 (4 : Int)) =
 true →
 False) ∧
 (decide
 (IntKind.wrap
 IntKind.i64
 (IntKind.wrap
 IntKind.i64
 (IntKind.wrap
 IntKind.i64
 (IntKind.wrap
 IntKind.i64
 ((0 :
 Int) +
 (1 :
 Int)) +
 (1 :
 Int)) +
 (1 :
 Int)) +
 (1 :
 Int)) <
 (4 : Int)) =
 false →
 (0 : Int) =
 sizeR x.fst))) ∧
 (decide
 (IntKind.wrap
 IntKind.i64
 (IntKind.wrap
 IntKind.i64
 (IntKind.wrap
 IntKind.i64
 ((0 : Int) +
 (1 :
 Int)) +
 (1 : Int)) +
 (1 : Int)) <
 (4 : Int)) =
 false →
 (0 : Int) = sizeR x.fst))) ∧
 (decide
 (IntKind.wrap IntKind.i64
 (IntKind.wrap IntKind.i64
 ((0 : Int) + (1 : Int)) +
 (1 : Int)) <
 (4 : Int)) =
 false →
 (0 : Int) = sizeR x.fst))) ∧
 (decide
 (IntKind.wrap IntKind.i64
 ((0 : Int) + (1 : Int)) <
 (4 : Int)) =
 false →
 (0 : Int) = sizeR x.fst))) ∧
 (decide ((0 : Int) < (4 : Int)) = false →
 (0 : Int) = sizeR x.fst))) ∧
 ((!right (65533 : Int)) = false →
 (decide ((0 : Int) < (4 : Int)) = true →
 ((0 : Int) ≤ (0 : Int) ∧ (0 : Int) < (↑(4 : Nat) : Int)) ∧
 (decide ((65533 : Int) ≤ (127 : Int)) = true →
 IntKind.wrap IntKind.i64 ((0 : Int) + (1 : Int)) =
 sizeR x.fst) ∧
 (decide ((65533 : Int) ≤ (127 : Int)) = false →
 (decide
 (IntKind.wrap IntKind.i64
 ((0 : Int) + (1 : Int)) <
 (4 : Int)) =
 true →
 ((0 : Int) ≤
 IntKind.wrap IntKind.i64
 ((0 : Int) + (1 : Int)) ∧
 IntKind.wrap IntKind.i64 ((0 : Int) + (1 : Int)) <
 (↑(4 : Nat) : Int)) ∧
 (decide ((65533 : Int) ≤ (2047 : Int)) = true →
 IntKind.wrap IntKind.i64
 (IntKind.wrap IntKind.i64
 ((0 : Int) + (1 : Int)) +
 (1 : Int)) =
 sizeR x.fst) ∧
 (decide ((65533 : Int) ≤ (2047 : Int)) = false →
 (decide
 (IntKind.wrap IntKind.i64
 (IntKind.wrap IntKind.i64
 ((0 : Int) + (1 : Int)) +
 (1 : Int)) <
 (4 : Int)) =
 true →
 ((0 : Int) ≤
 IntKind.wrap IntKind.i64
 (IntKind.wrap IntKind.i64
 ((0 : Int) + (1 : Int)) +
 (1 : Int)) ∧
 IntKind.wrap IntKind.i64
 (IntKind.wrap IntKind.i64
 ((0 : Int) + (1 : Int)) +
 (1 : Int)) <
 (↑(4 : Nat) : Int)) ∧
 (decide ((65533 : Int) ≤ (65535 : Int)) =
 true →
 IntKind.wrap IntKind.i64
 (IntKind.wrap IntKind.i64
 (IntKind.wrap IntKind.i64
 ((0 : Int) + (1 : Int)) +
 (1 : Int)) +
 (1 : Int)) =
 sizeR x.fst) ∧
 (decide
 ((65533 : Int) ≤ (65535 : Int)) =
 false →
 (decide
 (IntKind.wrap IntKind.i64
 (IntKind.wrap IntKind.i64
 (IntKind.wrap
 IntKind.i64
 ((0 : Int) +
 (1 : Int)) +
 (1 : Int)) +
 (1 : Int)) <
 (4 : Int)) =
 true →
 ((0 : Int) ≤
 IntKind.wrap IntKind.i64
 (IntKind.wrap IntKind.i64
 (IntKind.wrap
 IntKind.i64
 ((0 : Int) +
 (1 : Int)) +
 (1 : Int)) +
 (1 : Int)) ∧
 IntKind.wrap IntKind.i64
 (IntKind.wrap IntKind.i64
 (IntKind.wrap
 IntKind.i64
 ((0 : Int) +
 (1 : Int)) +
 (1 : Int)) +
 (1 : Int)) <
 (↑(4 : Nat) : Int)) ∧
 (decide
 ((65533 : Int) ≤
 (1114111 : Int)) =
 true →
 IntKind.wrap IntKind.i64
 (IntKind.wrap
 IntKind.i64
 (IntKind.wrap
 IntKind.i64
 (IntKind.wrap
 IntKind.i64
 ((0 : Int) +
 (1 :
 Int)) +
 (1 : Int)) +
 (1 : Int)) +
 (1 : Int)) =
 sizeR x.fst) ∧
 (decide
 ((65533 : Int) ≤
 (1114111 : Int)) =
 false →
 (decide
 (IntKind.wrap
 IntKind.i64
 (IntKind.wrap
 IntKind.i64
 (IntKind.wrap
 IntKind.i64
 (IntKind.wrap
 IntKind.i64
 ((0 :
 Int) +
 (1 :
 Int)) +
 (1 :
 Int)) +
 (1 :
 Int)) +
 (1 : Int)) <
 (4 : Int)) =
 true →
 False) ∧
 (decide
 (IntKind.wrap
 IntKind.i64
 (IntKind.wrap
 IntKind.i64
 (IntKind.wrap
 IntKind.i64
 (IntKind.wrap
 IntKind.i64
 ((0 :
 Int) +
 (1 :
 Int)) +
 (1 :
 Int)) +
 (1 :
 Int)) +
 (1 : Int)) <
 (4 : Int)) =
 false →
 (0 : Int) =
 sizeR x.fst))) ∧
 (decide
 (IntKind.wrap IntKind.i64
 (IntKind.wrap IntKind.i64
 (IntKind.wrap
 IntKind.i64
 ((0 : Int) +
 (1 : Int)) +
 (1 : Int)) +
 (1 : Int)) <
 (4 : Int)) =
 false →
 (0 : Int) = sizeR x.fst))) ∧
 (decide
 (IntKind.wrap IntKind.i64
 (IntKind.wrap IntKind.i64
 ((0 : Int) + (1 : Int)) +
 (1 : Int)) <
 (4 : Int)) =
 false →
 (0 : Int) = sizeR x.fst))) ∧
 (decide
 (IntKind.wrap IntKind.i64
 ((0 : Int) + (1 : Int)) <
 (4 : Int)) =
 false →
 (0 : Int) = sizeR x.fst))) ∧
 (decide ((0 : Int) < (4 : Int)) = false →
 (0 : Int) = sizeR x.fst))) ∧
 ((!right (65533 : Int)) = false →
 (decide ((0 : Int) < (4 : Int)) = true →
 ((0 : Int) ≤ (0 : Int) ∧ (0 : Int) < (↑(4 : Nat) : Int)) ∧
 (decide ((65533 : Int) ≤ (127 : Int)) = true →
 IntKind.wrap IntKind.i64 ((0 : Int) + (1 : Int)) =
 sizeR x.fst) ∧
 (decide ((65533 : Int) ≤ (127 : Int)) = false →
 (decide
 (IntKind.wrap IntKind.i64 ((0 : Int) + (1 : Int)) <
 (4 : Int)) =
 true →
 ((0 : Int) ≤
 IntKind.wrap IntKind.i64 ((0 : Int) + (1 : Int)) ∧
 IntKind.wrap IntKind.i64 ((0 : Int) + (1 : Int)) <
 (↑(4 : Nat) : Int)) ∧
 (decide ((65533 : Int) ≤ (2047 : Int)) = true →
 IntKind.wrap IntKind.i64
 (IntKind.wrap IntKind.i64
 ((0 : Int) + (1 : Int)) +
 (1 : Int)) =
 sizeR x.fst) ∧
 (decide ((65533 : Int) ≤ (2047 : Int)) = false →
 (decide
 (IntKind.wrap IntKind.i64
 (IntKind.wrap IntKind.i64
 ((0 : Int) + (1 : Int)) +
 (1 : Int)) <
 (4 : Int)) =
 true →
 ((0 : Int) ≤
 IntKind.wrap IntKind.i64
 (IntKind.wrap IntKind.i64
 ((0 : Int) + (1 : Int)) +
 (1 : Int)) ∧
 IntKind.wrap IntKind.i64
 (IntKind.wrap IntKind.i64
 ((0 : Int) + (1 : Int)) +
 (1 : Int)) <
 (↑(4 : Nat) : Int)) ∧
 (decide ((65533 : Int) ≤ (65535 : Int)) = true →
 IntKind.wrap IntKind.i64
 (IntKind.wrap IntKind.i64
 (IntKind.wrap IntKind.i64
 ((0 : Int) + (1 : Int)) +
 (1 : Int)) +
 (1 : Int)) =
 sizeR x.fst) ∧
 (decide ((65533 : Int) ≤ (65535 : Int)) =
 false →
 (decide
 (IntKind.wrap IntKind.i64
 (IntKind.wrap IntKind.i64
 (IntKind.wrap IntKind.i64
 ((0 : Int) +
 (1 : Int)) +
 (1 : Int)) +
 (1 : Int)) <
 (4 : Int)) =
 true →
 ((0 : Int) ≤
 IntKind.wrap IntKind.i64
 (IntKind.wrap IntKind.i64
 (IntKind.wrap IntKind.i64
 ((0 : Int) +
 (1 : Int)) +
 (1 : Int)) +
 (1 : Int)) ∧
 IntKind.wrap IntKind.i64
 (IntKind.wrap IntKind.i64
 (IntKind.wrap IntKind.i64
 ((0 : Int) +
 (1 : Int)) +
 (1 : Int)) +
 (1 : Int)) <
 (↑(4 : Nat) : Int)) ∧
 (decide
 ((65533 : Int) ≤
 (1114111 : Int)) =
 true →
 IntKind.wrap IntKind.i64
 (IntKind.wrap IntKind.i64
 (IntKind.wrap IntKind.i64
 (IntKind.wrap
 IntKind.i64
 ((0 : Int) +
 (1 : Int)) +
 (1 : Int)) +
 (1 : Int)) +
 (1 : Int)) =
 sizeR x.fst) ∧
 (decide
 ((65533 : Int) ≤
 (1114111 : Int)) =
 false →
 (decide
 (IntKind.wrap IntKind.i64
 (IntKind.wrap
 IntKind.i64
 (IntKind.wrap
 IntKind.i64
 (IntKind.wrap
 IntKind.i64
 ((0 :
 Int) +
 (1 :
 Int)) +
 (1 : Int)) +
 (1 : Int)) +
 (1 : Int)) <
 (4 : Int)) =
 true →
 False) ∧
 (decide
 (IntKind.wrap IntKind.i64
 (IntKind.wrap
 IntKind.i64
 (IntKind.wrap
 IntKind.i64
 (IntKind.wrap
 IntKind.i64
 ((0 :
 Int) +
 (1 :
 Int)) +
 (1 : Int)) +
 (1 : Int)) +
 (1 : Int)) <
 (4 : Int)) =
 false →
 (0 : Int) = sizeR x.fst))) ∧
 (decide
 (IntKind.wrap IntKind.i64
 (IntKind.wrap IntKind.i64
 (IntKind.wrap IntKind.i64
 ((0 : Int) +
 (1 : Int)) +
 (1 : Int)) +
 (1 : Int)) <
 (4 : Int)) =
 false →
 (0 : Int) = sizeR x.fst))) ∧
 (decide
 (IntKind.wrap IntKind.i64
 (IntKind.wrap IntKind.i64
 ((0 : Int) + (1 : Int)) +
 (1 : Int)) <
 (4 : Int)) =
 false →
 (0 : Int) = sizeR x.fst))) ∧
 (decide
 (IntKind.wrap IntKind.i64 ((0 : Int) + (1 : Int)) <
 (4 : Int)) =
 false →
 (0 : Int) = sizeR x.fst))) ∧
 (decide ((0 : Int) < (4 : Int)) = false → (0 : Int) = sizeR x.fst))) ∧
 ((!right (65533 : Int)) = false →
 (decide ((0 : Int) < (4 : Int)) = true →
 ((0 : Int) ≤ (0 : Int) ∧ (0 : Int) < (↑(4 : Nat) : Int)) ∧
 (decide ((65533 : Int) ≤ (127 : Int)) = true →
 IntKind.wrap IntKind.i64 ((0 : Int) + (1 : Int)) = sizeR x.fst) ∧
 (decide ((65533 : Int) ≤ (127 : Int)) = false →
 (decide
 (IntKind.wrap IntKind.i64 ((0 : Int) + (1 : Int)) <
 (4 : Int)) =
 true →
 ((0 : Int) ≤ IntKind.wrap IntKind.i64 ((0 : Int) + (1 : Int)) ∧
 IntKind.wrap IntKind.i64 ((0 : Int) + (1 : Int)) <
 (↑(4 : Nat) : Int)) ∧
 (decide ((65533 : Int) ≤ (2047 : Int)) = true →
 IntKind.wrap IntKind.i64
 (IntKind.wrap IntKind.i64 ((0 : Int) + (1 : Int)) +
 (1 : Int)) =
 sizeR x.fst) ∧
 (decide ((65533 : Int) ≤ (2047 : Int)) = false →
 (decide
 (IntKind.wrap IntKind.i64
 (IntKind.wrap IntKind.i64
 ((0 : Int) + (1 : Int)) +
 (1 : Int)) <
 (4 : Int)) =
 true →
 ((0 : Int) ≤
 IntKind.wrap IntKind.i64
 (IntKind.wrap IntKind.i64
 ((0 : Int) + (1 : Int)) +
 (1 : Int)) ∧
 IntKind.wrap IntKind.i64
 (IntKind.wrap IntKind.i64
 ((0 : Int) + (1 : Int)) +
 (1 : Int)) <
 (↑(4 : Nat) : Int)) ∧
 (decide ((65533 : Int) ≤ (65535 : Int)) = true →
 IntKind.wrap IntKind.i64
 (IntKind.wrap IntKind.i64
 (IntKind.wrap IntKind.i64
 ((0 : Int) + (1 : Int)) +
 (1 : Int)) +
 (1 : Int)) =
 sizeR x.fst) ∧
 (decide ((65533 : Int) ≤ (65535 : Int)) = false →
 (decide
 (IntKind.wrap IntKind.i64
 (IntKind.wrap IntKind.i64
 (IntKind.wrap IntKind.i64
 ((0 : Int) + (1 : Int)) +
 (1 : Int)) +
 (1 : Int)) <
 (4 : Int)) =
 true →
 ((0 : Int) ≤
 IntKind.wrap IntKind.i64
 (IntKind.wrap IntKind.i64
 (IntKind.wrap IntKind.i64
 ((0 : Int) + (1 : Int)) +
 (1 : Int)) +
 (1 : Int)) ∧
 IntKind.wrap IntKind.i64
 (IntKind.wrap IntKind.i64
 (IntKind.wrap IntKind.i64
 ((0 : Int) + (1 : Int)) +
 (1 : Int)) +
 (1 : Int)) <
 (↑(4 : Nat) : Int)) ∧
 (decide ((65533 : Int) ≤ (1114111 : Int)) =
 true →
 IntKind.wrap IntKind.i64
 (IntKind.wrap IntKind.i64
 (IntKind.wrap IntKind.i64
 (IntKind.wrap IntKind.i64
 ((0 : Int) +
 (1 : Int)) +
 (1 : Int)) +
 (1 : Int)) +
 (1 : Int)) =
 sizeR x.fst) ∧
 (decide
 ((65533 : Int) ≤ (1114111 : Int)) =
 false →
 (decide
 (IntKind.wrap IntKind.i64
 (IntKind.wrap IntKind.i64
 (IntKind.wrap
 IntKind.i64
 (IntKind.wrap
 IntKind.i64
 ((0 : Int) +
 (1 : Int)) +
 (1 : Int)) +
 (1 : Int)) +
 (1 : Int)) <
 (4 : Int)) =
 true →
 False) ∧
 (decide
 (IntKind.wrap IntKind.i64
 (IntKind.wrap IntKind.i64
 (IntKind.wrap
 IntKind.i64
 (IntKind.wrap
 IntKind.i64
 ((0 : Int) +
 (1 : Int)) +
 (1 : Int)) +
 (1 : Int)) +
 (1 : Int)) <
 (4 : Int)) =
 false →
 (0 : Int) = sizeR x.fst))) ∧
 (decide
 (IntKind.wrap IntKind.i64
 (IntKind.wrap IntKind.i64
 (IntKind.wrap IntKind.i64
 ((0 : Int) + (1 : Int)) +
 (1 : Int)) +
 (1 : Int)) <
 (4 : Int)) =
 false →
 (0 : Int) = sizeR x.fst))) ∧
 (decide
 (IntKind.wrap IntKind.i64
 (IntKind.wrap IntKind.i64
 ((0 : Int) + (1 : Int)) +
 (1 : Int)) <
 (4 : Int)) =
 false →
 (0 : Int) = sizeR x.fst))) ∧
 (decide
 (IntKind.wrap IntKind.i64 ((0 : Int) + (1 : Int)) <
 (4 : Int)) =
 false →
 (0 : Int) = sizeR x.fst))) ∧
 (decide ((0 : Int) < (4 : Int)) = false → (0 : Int) = sizeR x.fst))) ∧
 ((!right (65533 : Int)) = false →
 (decide ((0 : Int) < (4 : Int)) = true →
 ((0 : Int) ≤ (0 : Int) ∧ (0 : Int) < (↑(4 : Nat) : Int)) ∧
 (decide ((65533 : Int) ≤ (127 : Int)) = true →
 IntKind.wrap IntKind.i64 ((0 : Int) + (1 : Int)) = sizeR x.fst) ∧
 (decide ((65533 : Int) ≤ (127 : Int)) = false →
 (decide (IntKind.wrap IntKind.i64 ((0 : Int) + (1 : Int)) < (4 : Int)) =
 true →
 ((0 : Int) ≤ IntKind.wrap IntKind.i64 ((0 : Int) + (1 : Int)) ∧
 IntKind.wrap IntKind.i64 ((0 : Int) + (1 : Int)) <
 (↑(4 : Nat) : Int)) ∧
 (decide ((65533 : Int) ≤ (2047 : Int)) = true →
 IntKind.wrap IntKind.i64
 (IntKind.wrap IntKind.i64 ((0 : Int) + (1 : Int)) +
 (1 : Int)) =
 sizeR x.fst) ∧
 (decide ((65533 : Int) ≤ (2047 : Int)) = false →
 (decide
 (IntKind.wrap IntKind.i64
 (IntKind.wrap IntKind.i64 ((0 : Int) + (1 : Int)) +
 (1 : Int)) <
 (4 : Int)) =
 true →
 ((0 : Int) ≤
 IntKind.wrap IntKind.i64
 (IntKind.wrap IntKind.i64 ((0 : Int) + (1 : Int)) +
 (1 : Int)) ∧
 IntKind.wrap IntKind.i64
 (IntKind.wrap IntKind.i64 ((0 : Int) + (1 : Int)) +
 (1 : Int)) <
 (↑(4 : Nat) : Int)) ∧
 (decide ((65533 : Int) ≤ (65535 : Int)) = true →
 IntKind.wrap IntKind.i64
 (IntKind.wrap IntKind.i64
 (IntKind.wrap IntKind.i64
 ((0 : Int) + (1 : Int)) +
 (1 : Int)) +
 (1 : Int)) =
 sizeR x.fst) ∧
 (decide ((65533 : Int) ≤ (65535 : Int)) = false →
 (decide
 (IntKind.wrap IntKind.i64
 (IntKind.wrap IntKind.i64
 (IntKind.wrap IntKind.i64
 ((0 : Int) + (1 : Int)) +
 (1 : Int)) +
 (1 : Int)) <
 (4 : Int)) =
 true →
 ((0 : Int) ≤
 IntKind.wrap IntKind.i64
 (IntKind.wrap IntKind.i64
 (IntKind.wrap IntKind.i64
 ((0 : Int) + (1 : Int)) +
 (1 : Int)) +
 (1 : Int)) ∧
 IntKind.wrap IntKind.i64
 (IntKind.wrap IntKind.i64
 (IntKind.wrap IntKind.i64
 ((0 : Int) + (1 : Int)) +
 (1 : Int)) +
 (1 : Int)) <
 (↑(4 : Nat) : Int)) ∧
 (decide ((65533 : Int) ≤ (1114111 : Int)) = true →
 IntKind.wrap IntKind.i64
 (IntKind.wrap IntKind.i64
 (IntKind.wrap IntKind.i64
 (IntKind.wrap IntKind.i64
 ((0 : Int) + (1 : Int)) +
 (1 : Int)) +
 (1 : Int)) +
 (1 : Int)) =
 sizeR x.fst) ∧
 (decide ((65533 : Int) ≤ (1114111 : Int)) =
 false →
 (decide
 (IntKind.wrap IntKind.i64
 (IntKind.wrap IntKind.i64
 (IntKind.wrap IntKind.i64
 (IntKind.wrap IntKind.i64
 ((0 : Int) +
 (1 : Int)) +
 (1 : Int)) +
 (1 : Int)) +
 (1 : Int)) <
 (4 : Int)) =
 true →
 False) ∧
 (decide
 (IntKind.wrap IntKind.i64
 (IntKind.wrap IntKind.i64
 (IntKind.wrap IntKind.i64
 (IntKind.wrap IntKind.i64
 ((0 : Int) +
 (1 : Int)) +
 (1 : Int)) +
 (1 : Int)) +
 (1 : Int)) <
 (4 : Int)) =
 false →
 (0 : Int) = sizeR x.fst))) ∧
 (decide
 (IntKind.wrap IntKind.i64
 (IntKind.wrap IntKind.i64
 (IntKind.wrap IntKind.i64
 ((0 : Int) + (1 : Int)) +
 (1 : Int)) +
 (1 : Int)) <
 (4 : Int)) =
 false →
 (0 : Int) = sizeR x.fst))) ∧
 (decide
 (IntKind.wrap IntKind.i64
 (IntKind.wrap IntKind.i64 ((0 : Int) + (1 : Int)) +
 (1 : Int)) <
 (4 : Int)) =
 false →
 (0 : Int) = sizeR x.fst))) ∧
 (decide (IntKind.wrap IntKind.i64 ((0 : Int) + (1 : Int)) < (4 : Int)) =
 false →
 (0 : Int) = sizeR x.fst))) ∧
 (decide ((0 : Int) < (4 : Int)) = false → (0 : Int) = sizeR x.fst))) ∧
 ((!right (65533 : Int)) = false →
 (decide ((0 : Int) < (4 : Int)) = true →
 ((0 : Int) ≤ (0 : Int) ∧ (0 : Int) < (↑(4 : Nat) : Int)) ∧
 (decide ((65533 : Int) ≤ (127 : Int)) = true →
 IntKind.wrap IntKind.i64 ((0 : Int) + (1 : Int)) = sizeR x.fst) ∧
 (decide ((65533 : Int) ≤ (127 : Int)) = false →
 (decide (IntKind.wrap IntKind.i64 ((0 : Int) + (1 : Int)) < (4 : Int)) = true →
 ((0 : Int) ≤ IntKind.wrap IntKind.i64 ((0 : Int) + (1 : Int)) ∧
 IntKind.wrap IntKind.i64 ((0 : Int) + (1 : Int)) < (↑(4 : Nat) : Int)) ∧
 (decide ((65533 : Int) ≤ (2047 : Int)) = true →
 IntKind.wrap IntKind.i64
 (IntKind.wrap IntKind.i64 ((0 : Int) + (1 : Int)) + (1 : Int)) =
 sizeR x.fst) ∧
 (decide ((65533 : Int) ≤ (2047 : Int)) = false →
 (decide
 (IntKind.wrap IntKind.i64
 (IntKind.wrap IntKind.i64 ((0 : Int) + (1 : Int)) +
 (1 : Int)) <
 (4 : Int)) =
 true →
 ((0 : Int) ≤
 IntKind.wrap IntKind.i64
 (IntKind.wrap IntKind.i64 ((0 : Int) + (1 : Int)) +
 (1 : Int)) ∧
 IntKind.wrap IntKind.i64
 (IntKind.wrap IntKind.i64 ((0 : Int) + (1 : Int)) +
 (1 : Int)) <
 (↑(4 : Nat) : Int)) ∧
 (decide ((65533 : Int) ≤ (65535 : Int)) = true →
 IntKind.wrap IntKind.i64
 (IntKind.wrap IntKind.i64
 (IntKind.wrap IntKind.i64 ((0 : Int) + (1 : Int)) +
 (1 : Int)) +
 (1 : Int)) =
 sizeR x.fst) ∧
 (decide ((65533 : Int) ≤ (65535 : Int)) = false →
 (decide
 (IntKind.wrap IntKind.i64
 (IntKind.wrap IntKind.i64
 (IntKind.wrap IntKind.i64
 ((0 : Int) + (1 : Int)) +
 (1 : Int)) +
 (1 : Int)) <
 (4 : Int)) =
 true →
 ((0 : Int) ≤
 IntKind.wrap IntKind.i64
 (IntKind.wrap IntKind.i64
 (IntKind.wrap IntKind.i64
 ((0 : Int) + (1 : Int)) +
 (1 : Int)) +
 (1 : Int)) ∧
 IntKind.wrap IntKind.i64
 (IntKind.wrap IntKind.i64
 (IntKind.wrap IntKind.i64
 ((0 : Int) + (1 : Int)) +
 (1 : Int)) +
 (1 : Int)) <
 (↑(4 : Nat) : Int)) ∧
 (decide ((65533 : Int) ≤ (1114111 : Int)) = true →
 IntKind.wrap IntKind.i64
 (IntKind.wrap IntKind.i64
 (IntKind.wrap IntKind.i64
 (IntKind.wrap IntKind.i64
 ((0 : Int) + (1 : Int)) +
 (1 : Int)) +
 (1 : Int)) +
 (1 : Int)) =
 sizeR x.fst) ∧
 (decide ((65533 : Int) ≤ (1114111 : Int)) = false →
 (decide
 (IntKind.wrap IntKind.i64
 (IntKind.wrap IntKind.i64
 (IntKind.wrap IntKind.i64
 (IntKind.wrap IntKind.i64
 ((0 : Int) + (1 : Int)) +
 (1 : Int)) +
 (1 : Int)) +
 (1 : Int)) <
 (4 : Int)) =
 true →
 False) ∧
 (decide
 (IntKind.wrap IntKind.i64
 (IntKind.wrap IntKind.i64
 (IntKind.wrap IntKind.i64
 (IntKind.wrap IntKind.i64
 ((0 : Int) + (1 : Int)) +
 (1 : Int)) +
 (1 : Int)) +
 (1 : Int)) <
 (4 : Int)) =
 false →
 (0 : Int) = sizeR x.fst))) ∧
 (decide
 (IntKind.wrap IntKind.i64
 (IntKind.wrap IntKind.i64
 (IntKind.wrap IntKind.i64
 ((0 : Int) + (1 : Int)) +
 (1 : Int)) +
 (1 : Int)) <
 (4 : Int)) =
 false →
 (0 : Int) = sizeR x.fst))) ∧
 (decide
 (IntKind.wrap IntKind.i64
 (IntKind.wrap IntKind.i64 ((0 : Int) + (1 : Int)) +
 (1 : Int)) <
 (4 : Int)) =
 false →
 (0 : Int) = sizeR x.fst))) ∧
 (decide (IntKind.wrap IntKind.i64 ((0 : Int) + (1 : Int)) < (4 : Int)) = false →
 (0 : Int) = sizeR x.fst))) ∧
 (decide ((0 : Int) < (4 : Int)) = false → (0 : Int) = sizeR x.fst))) ∧
 ((!right (65533 : Int)) = false →
 (decide ((0 : Int) < (4 : Int)) = true →
 ((0 : Int) ≤ (0 : Int) ∧ (0 : Int) < (↑(4 : Nat) : Int)) ∧
 (decide ((65533 : Int) ≤ (127 : Int)) = true →
 IntKind.wrap IntKind.i64 ((0 : Int) + (1 : Int)) = sizeR x.fst) ∧
 (decide ((65533 : Int) ≤ (127 : Int)) = false →
 (decide (IntKind.wrap IntKind.i64 ((0 : Int) + (1 : Int)) < (4 : Int)) = true →
 ((0 : Int) ≤ IntKind.wrap IntKind.i64 ((0 : Int) + (1 : Int)) ∧
 IntKind.wrap IntKind.i64 ((0 : Int) + (1 : Int)) < (↑(4 : Nat) : Int)) ∧
 (decide ((65533 : Int) ≤ (2047 : Int)) = true →
 IntKind.wrap IntKind.i64
 (IntKind.wrap IntKind.i64 ((0 : Int) + (1 : Int)) + (1 : Int)) =
 sizeR x.fst) ∧
 (decide ((65533 : Int) ≤ (2047 : Int)) = false →
 (decide
 (IntKind.wrap IntKind.i64
 (IntKind.wrap IntKind.i64 ((0 : Int) + (1 : Int)) + (1 : Int)) <
 (4 : Int)) =
 true →
 ((0 : Int) ≤
 IntKind.wrap IntKind.i64
 (IntKind.wrap IntKind.i64 ((0 : Int) + (1 : Int)) + (1 : Int)) ∧
 IntKind.wrap IntKind.i64
 (IntKind.wrap IntKind.i64 ((0 : Int) + (1 : Int)) + (1 : Int)) <
 (↑(4 : Nat) : Int)) ∧
 (decide ((65533 : Int) ≤ (65535 : Int)) = true →
 IntKind.wrap IntKind.i64
 (IntKind.wrap IntKind.i64
 (IntKind.wrap IntKind.i64 ((0 : Int) + (1 : Int)) +
 (1 : Int)) +
 (1 : Int)) =
 sizeR x.fst) ∧
 (decide ((65533 : Int) ≤ (65535 : Int)) = false →
 (decide
 (IntKind.wrap IntKind.i64
 (IntKind.wrap IntKind.i64
 (IntKind.wrap IntKind.i64 ((0 : Int) + (1 : Int)) +
 (1 : Int)) +
 (1 : Int)) <
 (4 : Int)) =
 true →
 ((0 : Int) ≤
 IntKind.wrap IntKind.i64
 (IntKind.wrap IntKind.i64
 (IntKind.wrap IntKind.i64 ((0 : Int) + (1 : Int)) +
 (1 : Int)) +
 (1 : Int)) ∧
 IntKind.wrap IntKind.i64
 (IntKind.wrap IntKind.i64
 (IntKind.wrap IntKind.i64 ((0 : Int) + (1 : Int)) +
 (1 : Int)) +
 (1 : Int)) <
 (↑(4 : Nat) : Int)) ∧
 (decide ((65533 : Int) ≤ (1114111 : Int)) = true →
 IntKind.wrap IntKind.i64
 (IntKind.wrap IntKind.i64
 (IntKind.wrap IntKind.i64
 (IntKind.wrap IntKind.i64
 ((0 : Int) + (1 : Int)) +
 (1 : Int)) +
 (1 : Int)) +
 (1 : Int)) =
 sizeR x.fst) ∧
 (decide ((65533 : Int) ≤ (1114111 : Int)) = false →
 (decide
 (IntKind.wrap IntKind.i64
 (IntKind.wrap IntKind.i64
 (IntKind.wrap IntKind.i64
 (IntKind.wrap IntKind.i64
 ((0 : Int) + (1 : Int)) +
 (1 : Int)) +
 (1 : Int)) +
 (1 : Int)) <
 (4 : Int)) =
 true →
 False) ∧
 (decide
 (IntKind.wrap IntKind.i64
 (IntKind.wrap IntKind.i64
 (IntKind.wrap IntKind.i64
 (IntKind.wrap IntKind.i64
 ((0 : Int) + (1 : Int)) +
 (1 : Int)) +
 (1 : Int)) +
 (1 : Int)) <
 (4 : Int)) =
 false →
 (0 : Int) = sizeR x.fst))) ∧
 (decide
 (IntKind.wrap IntKind.i64
 (IntKind.wrap IntKind.i64
 (IntKind.wrap IntKind.i64 ((0 : Int) + (1 : Int)) +
 (1 : Int)) +
 (1 : Int)) <
 (4 : Int)) =
 false →
 (0 : Int) = sizeR x.fst))) ∧
 (decide
 (IntKind.wrap IntKind.i64
 (IntKind.wrap IntKind.i64 ((0 : Int) + (1 : Int)) + (1 : Int)) <
 (4 : Int)) =
 false →
 (0 : Int) = sizeR x.fst))) ∧
 (decide (IntKind.wrap IntKind.i64 ((0 : Int) + (1 : Int)) < (4 : Int)) = false →
 (0 : Int) = sizeR x.fst))) ∧
 (decide ((0 : Int) < (4 : Int)) = false → (0 : Int) = sizeR x.fst))) ∧
 ((!right (65533 : Int)) = false →
 (decide ((0 : Int) < (4 : Int)) = true →
 ((0 : Int) ≤ (0 : Int) ∧ (0 : Int) < (↑(4 : Nat) : Int)) ∧
 (decide ((65533 : Int) ≤ (127 : Int)) = true →
 IntKind.wrap IntKind.i64 ((0 : Int) + (1 : Int)) = sizeR x.fst) ∧
 (decide ((65533 : Int) ≤ (127 : Int)) = false →
 (decide (IntKind.wrap IntKind.i64 ((0 : Int) + (1 : Int)) < (4 : Int)) = true →
 ((0 : Int) ≤ IntKind.wrap IntKind.i64 ((0 : Int) + (1 : Int)) ∧
 IntKind.wrap IntKind.i64 ((0 : Int) + (1 : Int)) < (↑(4 : Nat) : Int)) ∧
 (decide ((65533 : Int) ≤ (2047 : Int)) = true →
 IntKind.wrap IntKind.i64
 (IntKind.wrap IntKind.i64 ((0 : Int) + (1 : Int)) + (1 : Int)) =
 sizeR x.fst) ∧
 (decide ((65533 : Int) ≤ (2047 : Int)) = false →
 (decide
 (IntKind.wrap IntKind.i64
 (IntKind.wrap IntKind.i64 ((0 : Int) + (1 : Int)) + (1 : Int)) <
 (4 : Int)) =
 true →
 ((0 : Int) ≤
 IntKind.wrap IntKind.i64
 (IntKind.wrap IntKind.i64 ((0 : Int) + (1 : Int)) + (1 : Int)) ∧
 IntKind.wrap IntKind.i64
 (IntKind.wrap IntKind.i64 ((0 : Int) + (1 : Int)) + (1 : Int)) <
 (↑(4 : Nat) : Int)) ∧
 (decide ((65533 : Int) ≤ (65535 : Int)) = true →
 IntKind.wrap IntKind.i64
 (IntKind.wrap IntKind.i64
 (IntKind.wrap IntKind.i64 ((0 : Int) + (1 : Int)) + (1 : Int)) +
 (1 : Int)) =
 sizeR x.fst) ∧
 (decide ((65533 : Int) ≤ (65535 : Int)) = false →
 (decide
 (IntKind.wrap IntKind.i64
 (IntKind.wrap IntKind.i64
 (IntKind.wrap IntKind.i64 ((0 : Int) + (1 : Int)) +
 (1 : Int)) +
 (1 : Int)) <
 (4 : Int)) =
 true →
 ((0 : Int) ≤
 IntKind.wrap IntKind.i64
 (IntKind.wrap IntKind.i64
 (IntKind.wrap IntKind.i64 ((0 : Int) + (1 : Int)) +
 (1 : Int)) +
 (1 : Int)) ∧
 IntKind.wrap IntKind.i64
 (IntKind.wrap IntKind.i64
 (IntKind.wrap IntKind.i64 ((0 : Int) + (1 : Int)) +
 (1 : Int)) +
 (1 : Int)) <
 (↑(4 : Nat) : Int)) ∧
 (decide ((65533 : Int) ≤ (1114111 : Int)) = true →
 IntKind.wrap IntKind.i64
 (IntKind.wrap IntKind.i64
 (IntKind.wrap IntKind.i64
 (IntKind.wrap IntKind.i64 ((0 : Int) + (1 : Int)) +
 (1 : Int)) +
 (1 : Int)) +
 (1 : Int)) =
 sizeR x.fst) ∧
 (decide ((65533 : Int) ≤ (1114111 : Int)) = false →
 (decide
 (IntKind.wrap IntKind.i64
 (IntKind.wrap IntKind.i64
 (IntKind.wrap IntKind.i64
 (IntKind.wrap IntKind.i64
 ((0 : Int) + (1 : Int)) +
 (1 : Int)) +
 (1 : Int)) +
 (1 : Int)) <
 (4 : Int)) =
 true →
 False) ∧
 (decide
 (IntKind.wrap IntKind.i64
 (IntKind.wrap IntKind.i64
 (IntKind.wrap IntKind.i64
 (IntKind.wrap IntKind.i64
 ((0 : Int) + (1 : Int)) +
 (1 : Int)) +
 (1 : Int)) +
 (1 : Int)) <
 (4 : Int)) =
 false →
 (0 : Int) = sizeR x.fst))) ∧
 (decide
 (IntKind.wrap IntKind.i64
 (IntKind.wrap IntKind.i64
 (IntKind.wrap IntKind.i64 ((0 : Int) + (1 : Int)) +
 (1 : Int)) +
 (1 : Int)) <
 (4 : Int)) =
 false →
 (0 : Int) = sizeR x.fst))) ∧
 (decide
 (IntKind.wrap IntKind.i64
 (IntKind.wrap IntKind.i64 ((0 : Int) + (1 : Int)) + (1 : Int)) <
 (4 : Int)) =
 false →
 (0 : Int) = sizeR x.fst))) ∧
 (decide (IntKind.wrap IntKind.i64 ((0 : Int) + (1 : Int)) < (4 : Int)) = false →
 (0 : Int) = sizeR x.fst))) ∧
 (decide ((0 : Int) < (4 : Int)) = false → (0 : Int) = sizeR x.fst))) ∧
 ((!right x.fst) = false →
 (decide ((0 : Int) < (4 : Int)) = true →
 ((0 : Int) ≤ (0 : Int) ∧ (0 : Int) < (↑(4 : Nat) : Int)) ∧
 (decide (x.fst ≤ (127 : Int)) = true → IntKind.wrap IntKind.i64 ((0 : Int) + (1 : Int)) = sizeR x.fst) ∧
 (decide (x.fst ≤ (127 : Int)) = false →
 (decide (IntKind.wrap IntKind.i64 ((0 : Int) + (1 : Int)) < (4 : Int)) = true →
 ((0 : Int) ≤ IntKind.wrap IntKind.i64 ((0 : Int) + (1 : Int)) ∧
 IntKind.wrap IntKind.i64 ((0 : Int) + (1 : Int)) < (↑(4 : Nat) : Int)) ∧
 (decide (x.fst ≤ (2047 : Int)) = true →
 IntKind.wrap IntKind.i64 (IntKind.wrap IntKind.i64 ((0 : Int) + (1 : Int)) + (1 : Int)) =
 sizeR x.fst) ∧
 (decide (x.fst ≤ (2047 : Int)) = false →
 (decide
 (IntKind.wrap IntKind.i64
 (IntKind.wrap IntKind.i64 ((0 : Int) + (1 : Int)) + (1 : Int)) <
 (4 : Int)) =
 true →
 ((0 : Int) ≤
 IntKind.wrap IntKind.i64
 (IntKind.wrap IntKind.i64 ((0 : Int) + (1 : Int)) + (1 : Int)) ∧
 IntKind.wrap IntKind.i64
 (IntKind.wrap IntKind.i64 ((0 : Int) + (1 : Int)) + (1 : Int)) <
 (↑(4 : Nat) : Int)) ∧
 (decide (x.fst ≤ (65535 : Int)) = true →
 IntKind.wrap IntKind.i64
 (IntKind.wrap IntKind.i64
 (IntKind.wrap IntKind.i64 ((0 : Int) + (1 : Int)) + (1 : Int)) +
 (1 : Int)) =
 sizeR x.fst) ∧
 (decide (x.fst ≤ (65535 : Int)) = false →
 (decide
 (IntKind.wrap IntKind.i64
 (IntKind.wrap IntKind.i64
 (IntKind.wrap IntKind.i64 ((0 : Int) + (1 : Int)) + (1 : Int)) +
 (1 : Int)) <
 (4 : Int)) =
 true →
 ((0 : Int) ≤
 IntKind.wrap IntKind.i64
 (IntKind.wrap IntKind.i64
 (IntKind.wrap IntKind.i64 ((0 : Int) + (1 : Int)) + (1 : Int)) +
 (1 : Int)) ∧
 IntKind.wrap IntKind.i64
 (IntKind.wrap IntKind.i64
 (IntKind.wrap IntKind.i64 ((0 : Int) + (1 : Int)) + (1 : Int)) +
 (1 : Int)) <
 (↑(4 : Nat) : Int)) ∧
 (decide (x.fst ≤ (1114111 : Int)) = true →
 IntKind.wrap IntKind.i64
 (IntKind.wrap IntKind.i64
 (IntKind.wrap IntKind.i64
 (IntKind.wrap IntKind.i64 ((0 : Int) + (1 : Int)) +
 (1 : Int)) +
 (1 : Int)) +
 (1 : Int)) =
 sizeR x.fst) ∧
 (decide (x.fst ≤ (1114111 : Int)) = false →
 (decide
 (IntKind.wrap IntKind.i64
 (IntKind.wrap IntKind.i64
 (IntKind.wrap IntKind.i64
 (IntKind.wrap IntKind.i64
 ((0 : Int) + (1 : Int)) +
 (1 : Int)) +
 (1 : Int)) +
 (1 : Int)) <
 (4 : Int)) =
 true →
 False) ∧
 (decide
 (IntKind.wrap IntKind.i64
 (IntKind.wrap IntKind.i64
 (IntKind.wrap IntKind.i64
 (IntKind.wrap IntKind.i64
 ((0 : Int) + (1 : Int)) +
 (1 : Int)) +
 (1 : Int)) +
 (1 : Int)) <
 (4 : Int)) =
 false →
 (0 : Int) = sizeR x.fst))) ∧
 (decide
 (IntKind.wrap IntKind.i64
 (IntKind.wrap IntKind.i64
 (IntKind.wrap IntKind.i64 ((0 : Int) + (1 : Int)) + (1 : Int)) +
 (1 : Int)) <
 (4 : Int)) =
 false →
 (0 : Int) = sizeR x.fst))) ∧
 (decide
 (IntKind.wrap IntKind.i64
 (IntKind.wrap IntKind.i64 ((0 : Int) + (1 : Int)) + (1 : Int)) <
 (4 : Int)) =
 false →
 (0 : Int) = sizeR x.fst))) ∧
 (decide (IntKind.wrap IntKind.i64 ((0 : Int) + (1 : Int)) < (4 : Int)) = false →
 (0 : Int) = sizeR x.fst))) ∧
 (decide ((0 : Int) < (4 : Int)) = false → (0 : Int) = sizeR x.fst))
theorem vcEq14 : fnVC E14 Tryd.f14 (bodyOf Tryd.f14) cSize = vc14 := by kernel_rfl
/- fn 15 -/
def hs15 : List (Nat × Nat × Hint) := [(0, 3, ⟨[.rowS 3 900000003 t3 3, .slot 9 t3], [7, 8], [], []⟩)]
def nm15 : List Nat := [1000000006]
noncomputable def E15 : Env := env tab [] [] gl hs15 nm15
def vc15 : Prop :=
 ∀ (x : List Int × Unit),
 List.length x.fst ≤ (1000000000 : Nat) →
 (((0 : Int) = (0 : Int) ∧ True ∧ x.fst = x.fst ∧ (↑(List.length x.fst) : Int) = (↑(List.length x.fst) : Int)) ∧
 [(0 : Int)] = [(0 : Int)] ∧ True) ∧
 ∃ (Z : List Int × Int × Unit → Prop),
 ∃ (μ : List Int × Int × Unit → Nat),
 Z ([(0 : Int)], (0 : Int), ()) ∧
 ∀ (a : List Int) (a_1 : Int),
 Z (a, a_1, ()) →
 (decide (a_1 < (↑(List.length x.fst) : Int)) = true →
 ((0 : Int) ≤ a_1 ∧ a_1 < (↑(List.length x.fst) : Int)) ∧
 ((List.getD x.fst (Int.toNat a_1) (Ty.dflt t21) == (10 : Int)) = true →
 (List.length a + List.length [(0 : Int)]) * (8 : Nat) ≤ (140737488355328 : Nat) ∧
 List.length a + List.length [(0 : Int)] ≤ maxLen ∧
 ((IntKind.wrap IntKind.i64 (a_1 + (1 : Int)) =
 IntKind.wrap IntKind.i64 (a_1 + (1 : Int)) ∧
 True ∧
 x.fst = x.fst ∧ (↑(List.length x.fst) : Int) = (↑(List.length x.fst) : Int)) ∧
 a ++ [(0 : Int)] = a ++ [(0 : Int)] ∧ True) ∧
 Z (a ++ [(0 : Int)], IntKind.wrap IntKind.i64 (a_1 + (1 : Int)), ()) ∧
 μ (a ++ [(0 : Int)], IntKind.wrap IntKind.i64 (a_1 + (1 : Int)), ()) <
 μ (a, a_1, ())) ∧
 ((List.getD x.fst (Int.toNat a_1) (Ty.dflt t21) == (10 : Int)) = false →
 ((0 : Int) ≤ IntKind.wrap IntKind.i64 ((↑(List.length a) : Int) - (1 : Int)) ∧
 IntKind.wrap IntKind.i64 ((↑(List.length a) : Int) - (1 : Int)) <
 (↑(List.length a) : Int)) ∧
 ((0 : Int) ≤ IntKind.wrap IntKind.i64 ((↑(List.length a) : Int) - (1 : Int)) ∧
 IntKind.wrap IntKind.i64 ((↑(List.length a) : Int) - (1 : Int)) <
 (↑(List.length a) : Int)) ∧
 ((IntKind.wrap IntKind.i64 (a_1 + (1 : Int)) =
 IntKind.wrap IntKind.i64 (a_1 + (1 : Int)) ∧
 True ∧
 x.fst = x.fst ∧ (↑(List.length x.fst) : Int) = (↑(List.length x.fst) : Int)) ∧
 List.set a
 (Int.toNat (IntKind.wrap IntKind.i64 ((↑(List.length a) : Int) - (1 : Int))))
 (IntKind.wrap IntKind.i64
 (List.getD a
 (Int.toNat
 (IntKind.wrap IntKind.i64 ((↑(List.length a) : Int) - (1 : Int))))
 (Ty.dflt t3) +
 (1 : Int))) =
 List.set a
 (Int.toNat (IntKind.wrap IntKind.i64 ((↑(List.length a) : Int) - (1 : Int))))
 (IntKind.wrap IntKind.i64
 (List.getD a
 (Int.toNat
 (IntKind.wrap IntKind.i64 ((↑(List.length a) : Int) - (1 : Int))))
 (Ty.dflt t3) +
 (1 : Int))) ∧
 True) ∧
 Z
 (List.set a
 (Int.toNat (IntKind.wrap IntKind.i64 ((↑(List.length a) : Int) - (1 : Int))))
 (IntKind.wrap IntKind.i64
 (List.getD a
 (Int.toNat
 (IntKind.wrap IntKind.i64 ((↑(List.length a) : Int) - (1 : Int))))
 (Ty.dflt t3) +
 (1 : Int))),
 IntKind.wrap IntKind.i64 (a_1 + (1 : Int)), ()) ∧
 μ
 (List.set a
 (Int.toNat (IntKind.wrap IntKind.i64 ((↑(List.length a) : Int) - (1 : Int))))
 (IntKind.wrap IntKind.i64
 (List.getD a
 (Int.toNat
 (IntKind.wrap IntKind.i64 ((↑(List.length a) : Int) - (1 : Int))))
 (Ty.dflt t3) +
 (1 : Int))),
 IntKind.wrap IntKind.i64 (a_1 + (1 : Int)), ()) <
 μ (a, a_1, ()))) ∧
 (decide (a_1 < (↑(List.length x.fst) : Int)) = false → a = linesOf x.fst)
theorem vcEq15 : fnVC E15 Tryd.f15 (bodyOf Tryd.f15) cLines = vc15 := by kernel_rfl
/- fn 16 -/
def hs16 : List (Nat × Nat × Hint) := [(0, 3, ⟨[.slot 3 t9, .slot 9 t3], [7, 8], [], []⟩)]
def nm16 : List Nat := []
noncomputable def E16 : Env := env tab [(18, cUSize), (19, cOne)] [] gl hs16 nm16
def vc16 : Prop :=
 ∀ (x : List Int × Unit),
 List.length x.fst ≤ (1000000000 : Nat) →
 ((0 : Int) = (0 : Int) ∧
 (ByteArray.mk #[]) = (ByteArray.mk #[]) ∧
 x.fst = x.fst ∧ (↑(List.length x.fst) : Int) = (↑(List.length x.fst) : Int)) ∧
 ∃ (Z : ByteArray × Int × Unit → Prop),
 ∃ (μ : ByteArray × Int × Unit → Nat),
 Z ((ByteArray.mk #[]), (0 : Int), ()) ∧
 ∀ (a : ByteArray) (a_1 : Int),
 Z (a, a_1, ()) →
 (decide (a_1 < (↑(List.length x.fst) : Int)) = true →
 ((0 : Int) ≤ a_1 ∧ a_1 < (↑(List.length x.fst) : Int)) ∧
 True ∧
 ((uSize (List.getD x.fst (Int.toNat a_1) (Ty.dflt t21)) == (0 : Int)) = true →
 ((0 : Int) ≤ (65533 : Int) ∧
 (65533 : Int) ≤ (1114111 : Int) ∧ uSize (65533 : Int) = (3 : Int)) ∧
 ByteArray.size a + ByteArray.size (bytesOf (uBytes (65533 : Int) (3 : Int))) ≤
 (9223372036854775807 : Nat) ∧
 (IntKind.wrap IntKind.i64 (a_1 + (1 : Int)) =
 IntKind.wrap IntKind.i64 (a_1 + (1 : Int)) ∧
 a ++ bytesOf (uBytes (65533 : Int) (3 : Int)) =
 a ++ bytesOf (uBytes (65533 : Int) (3 : Int)) ∧
 x.fst = x.fst ∧ (↑(List.length x.fst) : Int) = (↑(List.length x.fst) : Int)) ∧
 Z
 (a ++ bytesOf (uBytes (65533 : Int) (3 : Int)),
 IntKind.wrap IntKind.i64 (a_1 + (1 : Int)), ()) ∧
 μ
 (a ++ bytesOf (uBytes (65533 : Int) (3 : Int)),
 IntKind.wrap IntKind.i64 (a_1 + (1 : Int)), ()) <
 μ (a, a_1, ())) ∧
 ((uSize (List.getD x.fst (Int.toNat a_1) (Ty.dflt t21)) == (0 : Int)) = false →
 ((0 : Int) ≤ List.getD x.fst (Int.toNat a_1) (Ty.dflt t21) ∧
 List.getD x.fst (Int.toNat a_1) (Ty.dflt t21) ≤ (1114111 : Int) ∧
 uSize (List.getD x.fst (Int.toNat a_1) (Ty.dflt t21)) =
 uSize (List.getD x.fst (Int.toNat a_1) (Ty.dflt t21))) ∧
 ByteArray.size a +
 ByteArray.size
 (bytesOf
 (uBytes (List.getD x.fst (Int.toNat a_1) (Ty.dflt t21))
 (uSize (List.getD x.fst (Int.toNat a_1) (Ty.dflt t21))))) ≤
 (9223372036854775807 : Nat) ∧
 (IntKind.wrap IntKind.i64 (a_1 + (1 : Int)) =
 IntKind.wrap IntKind.i64 (a_1 + (1 : Int)) ∧
 a ++
 bytesOf
 (uBytes (List.getD x.fst (Int.toNat a_1) (Ty.dflt t21))
 (uSize (List.getD x.fst (Int.toNat a_1) (Ty.dflt t21)))) =
 a ++
 bytesOf
 (uBytes (List.getD x.fst (Int.toNat a_1) (Ty.dflt t21))
 (uSize (List.getD x.fst (Int.toNat a_1) (Ty.dflt t21)))) ∧
 x.fst = x.fst ∧ (↑(List.length x.fst) : Int) = (↑(List.length x.fst) : Int)) ∧
 Z
 (a ++
 bytesOf
 (uBytes (List.getD x.fst (Int.toNat a_1) (Ty.dflt t21))
 (uSize (List.getD x.fst (Int.toNat a_1) (Ty.dflt t21)))),
 IntKind.wrap IntKind.i64 (a_1 + (1 : Int)), ()) ∧
 μ
 (a ++
 bytesOf
 (uBytes (List.getD x.fst (Int.toNat a_1) (Ty.dflt t21))
 (uSize (List.getD x.fst (Int.toNat a_1) (Ty.dflt t21)))),
 IntKind.wrap IntKind.i64 (a_1 + (1 : Int)), ()) <
 μ (a, a_1, ()))) ∧
 (decide (a_1 < (↑(List.length x.fst) : Int)) = false → a = encode x.fst)
theorem vcEq16 : fnVC E16 Tryd.f16 (bodyOf Tryd.f16) cEncode = vc16 := by kernel_rfl
/- fn 17 -/
def hs17 : List (Nat × Nat × Hint) := []
def nm17 : List Nat := []
noncomputable def E17 : Env := env tab [] [] gl hs17 nm17
def vc17 : Prop :=
 ∀ (x : Int × Unit),
 True →
 (decide (x.fst ≥ (0 : Int)) = true →
 ((0 : Int) ≤ (3 : Int) ∧ (3 : Int) < (↑(4 : Nat) : Int)) ∧
 (decide (x.fst ≤ (1114111 : Int)) = true →
 (decide (x.fst < (55296 : Int)) = true → true = right x.fst) ∧
 (decide (x.fst < (55296 : Int)) = false → decide (x.fst > (57343 : Int)) = right x.fst)) ∧
 (decide (x.fst ≤ (1114111 : Int)) = false → false = right x.fst)) ∧
 (decide (x.fst ≥ (0 : Int)) = false → false = right x.fst)
theorem vcEq17 : fnVC E17 Tryd.f17 (bodyOf Tryd.f17) cRight = vc17 := by kernel_rfl
/- fn 18 -/
def hs18 : List (Nat × Nat × Hint) := []
def nm18 : List Nat := []
noncomputable def E18 : Env := env tab [] [] gl hs18 nm18
def vc18 : Prop :=
 ∀ (x : Int × Unit),
 True →
 (decide (x.fst < (0 : Int)) = true → (0 : Int) = uSize x.fst) ∧
 (decide (x.fst < (0 : Int)) = false →
 (decide (x.fst > (1114111 : Int)) = true → (0 : Int) = uSize x.fst) ∧
 (decide (x.fst > (1114111 : Int)) = false →
 (decide (x.fst ≥ (55296 : Int)) = true →
 (decide (x.fst ≤ (57343 : Int)) = true → (0 : Int) = uSize x.fst) ∧
 (decide (x.fst ≤ (57343 : Int)) = false →
 (decide (x.fst < (128 : Int)) = true → (1 : Int) = uSize x.fst) ∧
 (decide (x.fst < (128 : Int)) = false →
 (decide (x.fst < (2048 : Int)) = true → (2 : Int) = uSize x.fst) ∧
 (decide (x.fst < (2048 : Int)) = false →
 (decide (x.fst < (65536 : Int)) = true → (3 : Int) = uSize x.fst) ∧
 (decide (x.fst < (65536 : Int)) = false → (4 : Int) = uSize x.fst))))) ∧
 (decide (x.fst ≥ (55296 : Int)) = false →
 (decide (x.fst < (128 : Int)) = true → (1 : Int) = uSize x.fst) ∧
 (decide (x.fst < (128 : Int)) = false →
 (decide (x.fst < (2048 : Int)) = true → (2 : Int) = uSize x.fst) ∧
 (decide (x.fst < (2048 : Int)) = false →
 (decide (x.fst < (65536 : Int)) = true → (3 : Int) = uSize x.fst) ∧
 (decide (x.fst < (65536 : Int)) = false → (4 : Int) = uSize x.fst))))))
theorem vcEq18 : fnVC E18 Tryd.f18 (bodyOf Tryd.f18) cUSize = vc18 := by kernel_rfl
/- fn 19 -/
def hs19 : List (Nat × Nat × Hint) := []
def nm19 : List Nat := []
noncomputable def E19 : Env := env tab [] [] gl hs19 nm19
def vc19 : Prop :=
 ∀ (x : Int × Int × Unit),
 (0 : Int) ≤ x.fst ∧ x.fst ≤ (1114111 : Int) ∧ uSize x.fst = x.snd.fst →
 ((x.snd.fst == (1 : Int)) = true → bytesOf [IntKind.wrap IntKind.u8 x.fst] = bytesOf (uBytes x.fst x.snd.fst)) ∧
 ((x.snd.fst == (1 : Int)) = false →
 ((x.snd.fst == (2 : Int)) = true →
 (64 : Int) ≠ (0 : Int) ∧
 (64 : Int) ≠ (0 : Int) ∧
 bytesOf
 [IntKind.wrap IntKind.u8
 (IntKind.wrap IntKind.i32 ((192 : Int) + IntKind.wrap IntKind.i32 (Int.tdiv x.fst (64 : Int)))),
 IntKind.wrap IntKind.u8 (IntKind.wrap IntKind.i32 ((128 : Int) + Int.tmod x.fst (64 : Int)))] =
 bytesOf (uBytes x.fst x.snd.fst)) ∧
 ((x.snd.fst == (2 : Int)) = false →
 ((x.snd.fst == (3 : Int)) = true →
 (4096 : Int) ≠ (0 : Int) ∧
 (64 : Int) ≠ (0 : Int) ∧
 (64 : Int) ≠ (0 : Int) ∧
 (64 : Int) ≠ (0 : Int) ∧
 bytesOf
 [IntKind.wrap IntKind.u8
 (IntKind.wrap IntKind.i32
 ((224 : Int) + IntKind.wrap IntKind.i32 (Int.tdiv x.fst (4096 : Int)))),
 IntKind.wrap IntKind.u8
 (IntKind.wrap IntKind.i32
 ((128 : Int) +
 Int.tmod (IntKind.wrap IntKind.i32 (Int.tdiv x.fst (64 : Int))) (64 : Int))),
 IntKind.wrap IntKind.u8
 (IntKind.wrap IntKind.i32 ((128 : Int) + Int.tmod x.fst (64 : Int)))] =
 bytesOf (uBytes x.fst x.snd.fst)) ∧
 ((x.snd.fst == (3 : Int)) = false →
 (262144 : Int) ≠ (0 : Int) ∧
 (4096 : Int) ≠ (0 : Int) ∧
 (64 : Int) ≠ (0 : Int) ∧
 (64 : Int) ≠ (0 : Int) ∧
 (64 : Int) ≠ (0 : Int) ∧
 (64 : Int) ≠ (0 : Int) ∧
 bytesOf
 [IntKind.wrap IntKind.u8
 (IntKind.wrap IntKind.i32
 ((240 : Int) + IntKind.wrap IntKind.i32 (Int.tdiv x.fst (262144 : Int)))),
 IntKind.wrap IntKind.u8
 (IntKind.wrap IntKind.i32
 ((128 : Int) +
 Int.tmod (IntKind.wrap IntKind.i32 (Int.tdiv x.fst (4096 : Int))) (64 : Int))),
 IntKind.wrap IntKind.u8
 (IntKind.wrap IntKind.i32
 ((128 : Int) +
 Int.tmod (IntKind.wrap IntKind.i32 (Int.tdiv x.fst (64 : Int))) (64 : Int))),
 IntKind.wrap IntKind.u8
 (IntKind.wrap IntKind.i32 ((128 : Int) + Int.tmod x.fst (64 : Int)))] =
 bytesOf (uBytes x.fst x.snd.fst))))
theorem vcEq19 : fnVC E19 Tryd.f19 (bodyOf Tryd.f19) cOne = vc19 := by kernel_rfl
end Go.Fr.C03
