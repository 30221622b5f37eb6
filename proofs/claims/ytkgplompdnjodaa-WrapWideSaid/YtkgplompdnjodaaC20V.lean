/-
  Conditions to be proved, function by function, printed by a program. Conditions: none.
-/
import Derived.Test.YtkgplompdnjodaaC20A
namespace Go.Fr.C20
open Go Go.Fr Go.Proofs
set_option maxRecDepth 100000

/- fn 3 -/
def hs3 : List (Nat × Nat × Hint) := [(0, 14, ⟨[.slot 11 t3, .slot 87 t3], [8, 10, 85, 86], [], []⟩)]
def nm3 : List Nat := []
noncomputable def E3 : Env := env tab [(8, cRight), (9, cHangs), (10, cRows), (11, cCount), (12, cHang), (13, cHang), (14, cWRight), (15, cRRows), (16, cCells), (17, cWidth)] [] noGl hs3 nm3
def vc3 : Prop :=
 ∀ (x : List (Int × Int × Int × Int × Unit) × Int × Unit),
 List.length x.fst ≤ maxLen →
 List.length x.fst ≤ maxLen ∧
 ((!right x.fst) = true → True ∧ true = true) ∧
 ((!right x.fst) = false →
 okL x.fst ∧
 okL x.fst ∧
 okL x.fst ∧
 okL x.fst ∧
 ((hang x.fst x.snd.fst != hang x.fst x.snd.fst) = true → false = true) ∧
 ((hang x.fst x.snd.fst != hang x.fst x.snd.fst) = false →
 True ∧
 ((!wRight x.snd.fst) = true →
 (((rowsE x.fst x.snd.fst).snd.fst == (1 : Int)) = true →
 (((countE x.fst x.snd.fst).snd.snd.fst == (1 : Int)) = true →
 (((↑(List.length (rowsE x.fst x.snd.fst).fst) : Int) == (0 : Int)) = true →
 (((countE x.fst x.snd.fst).fst == (0 : Int)) = true →
 (((countE x.fst x.snd.fst).snd.fst == (0 : Int)) = true →
 True ∧ true = true) ∧
 (((countE x.fst x.snd.fst).snd.fst == (0 : Int)) = false →
 false = true)) ∧
 (((countE x.fst x.snd.fst).fst == (0 : Int)) = false → false = true)) ∧
 (((↑(List.length (rowsE x.fst x.snd.fst).fst) : Int) == (0 : Int)) = false →
 false = true)) ∧
 (((countE x.fst x.snd.fst).snd.snd.fst == (1 : Int)) = false → false = true)) ∧
 (((rowsE x.fst x.snd.fst).snd.fst == (1 : Int)) = false → false = true)) ∧
 ((!wRight x.snd.fst) = false →
 (okL x.fst ∧ (0 : Int) ≤ x.snd.fst ∧ x.snd.fst ≤ (200 : Int)) ∧
 (((rowsE x.fst x.snd.fst).snd.fst != (0 : Int)) = true → false = true) ∧
 (((rowsE x.fst x.snd.fst).snd.fst != (0 : Int)) = false →
 (((countE x.fst x.snd.fst).snd.snd.fst != (0 : Int)) = true → false = true) ∧
 (((countE x.fst x.snd.fst).snd.snd.fst != (0 : Int)) = false →
 (((↑(List.length (rowsE x.fst x.snd.fst).fst) : Int) !=
 (↑(List.length (rowsW x.fst x.snd.fst)) : Int)) =
 true →
 false = true) ∧
 (((↑(List.length (rowsE x.fst x.snd.fst).fst) : Int) !=
 (↑(List.length (rowsW x.fst x.snd.fst)) : Int)) =
 false →
 (((countE x.fst x.snd.fst).fst !=
 (↑(List.length (rowsW x.fst x.snd.fst)) : Int)) =
 true →
 false = true) ∧
 (((countE x.fst x.snd.fst).fst !=
 (↑(List.length (rowsW x.fst x.snd.fst)) : Int)) =
 false →
 ((0 : Int) = (0 : Int) ∧
 (0 : Int) = (0 : Int) ∧
 (countE x.fst x.snd.fst).snd.fst =
 (countE x.fst x.snd.fst).snd.fst ∧
 rowsW x.fst x.snd.fst = rowsW x.fst x.snd.fst ∧
 (rowsE x.fst x.snd.fst).fst = (rowsE x.fst x.snd.fst).fst ∧
 (↑(List.length (rowsE x.fst x.snd.fst).fst) : Int) =
 (↑(List.length (rowsE x.fst x.snd.fst).fst) : Int)) ∧
 ∃ (Z : Int × Int × Unit → Prop),
 ∃ (μ : Int × Int × Unit → Nat),
 Z ((0 : Int), (0 : Int), ()) ∧
 ∀ (a a_1 : Int),
 Z (a, a_1, ()) →
 (decide
 (a_1 <
 (↑(List.length (rowsE x.fst x.snd.fst).fst) :
 Int)) =
 true →
 ((0 : Int) ≤ a_1 ∧
 a_1 <
 (↑(List.length (rowsE x.fst x.snd.fst).fst) :
 Int)) ∧
 ((0 : Int) ≤ a_1 ∧
 a_1 <
 (↑(List.length (rowsW x.fst x.snd.fst)) : Int)) ∧
 (List.length
 (List.getD (rowsE x.fst x.snd.fst).fst
 (Int.toNat a_1) (Ty.dflt t22)) ≤
 maxLen ∧
 List.length
 (List.getD (rowsW x.fst x.snd.fst)
 (Int.toNat a_1) (Ty.dflt t22)) ≤
 maxLen) ∧
 ((!decide
 (List.getD (rowsE x.fst x.snd.fst).fst
 (Int.toNat a_1) (Ty.dflt t22) =
 List.getD (rowsW x.fst x.snd.fst)
 (Int.toNat a_1) (Ty.dflt t22))) =
 true →
 false = true) ∧
 ((!decide
 (List.getD (rowsE x.fst x.snd.fst).fst
 (Int.toNat a_1) (Ty.dflt t22) =
 List.getD (rowsW x.fst x.snd.fst)
 (Int.toNat a_1) (Ty.dflt t22))) =
 false →
 okW
 (List.getD (rowsE x.fst x.snd.fst).fst
 (Int.toNat a_1) (Ty.dflt t22)) ∧
 (IntKind.wrap IntKind.i64 (a_1 + (1 : Int)) =
 IntKind.wrap IntKind.i64
 (a_1 + (1 : Int)) ∧
 ((if
 a <
 width
 (List.getD
 (rowsE x.fst x.snd.fst).fst
 (Int.toNat a_1)
 (Ty.dflt t22)) then
 width
 (List.getD
 (rowsE x.fst x.snd.fst).fst
 (Int.toNat a_1) (Ty.dflt t22))
 else a) =
 if
 a <
 width
 (List.getD
 (rowsE x.fst x.snd.fst).fst
 (Int.toNat a_1)
 (Ty.dflt t22)) then
 width
 (List.getD
 (rowsE x.fst x.snd.fst).fst
 (Int.toNat a_1) (Ty.dflt t22))
 else a) ∧
 (countE x.fst x.snd.fst).snd.fst =
 (countE x.fst x.snd.fst).snd.fst ∧
 rowsW x.fst x.snd.fst =
 rowsW x.fst x.snd.fst ∧
 (rowsE x.fst x.snd.fst).fst =
 (rowsE x.fst x.snd.fst).fst ∧
 (↑(List.length
 (rowsE x.fst
 x.snd.fst).fst) :
 Int) =
 (↑(List.length
 (rowsE x.fst
 x.snd.fst).fst) :
 Int)) ∧
 Z
 (if
 a <
 width
 (List.getD
 (rowsE x.fst x.snd.fst).fst
 (Int.toNat a_1)
 (Ty.dflt t22)) then
 width
 (List.getD
 (rowsE x.fst x.snd.fst).fst
 (Int.toNat a_1) (Ty.dflt t22))
 else a,
 IntKind.wrap IntKind.i64
 (a_1 + (1 : Int)),
 ()) ∧
 μ
 (if
 a <
 width
 (List.getD
 (rowsE x.fst
 x.snd.fst).fst
 (Int.toNat a_1)
 (Ty.dflt t22)) then
 width
 (List.getD
 (rowsE x.fst x.snd.fst).fst
 (Int.toNat a_1) (Ty.dflt t22))
 else a,
 IntKind.wrap IntKind.i64
 (a_1 + (1 : Int)),
 ()) <
 μ (a, a_1, ()))) ∧
 (decide
 (a_1 <
 (↑(List.length (rowsE x.fst x.snd.fst).fst) :
 Int)) =
 false →
 (((countE x.fst x.snd.fst).snd.fst == a) = true →
 True ∧ true = true) ∧
 (((countE x.fst x.snd.fst).snd.fst == a) = false →
 false = true)))))))))
theorem vcEq3 : fnVC E3 Try.f3 (bodyOf Try.f3) cWrapRows = vc3 := by kernel_rfl
/- fn 4 -/
def hs4 : List (Nat × Nat × Hint) := [(0, 7, ⟨[.slot 31 t3], [1, 29, 30], [], []⟩)]
def nm4 : List Nat := []
noncomputable def E4 : Env := env tab [(8, cRight), (9, cHangs), (10, cRows), (17, cWidth)] [] noGl hs4 nm4
def vc4 : Prop :=
 ∀ (x : List (Int × Int × Int × Int × Unit) × Int × Unit),
 List.length x.fst ≤ maxLen →
 List.length x.fst ≤ maxLen ∧
 ((!right x.fst) = true → True ∧ true = true) ∧
 ((!right x.fst) = false →
 (decide (x.snd.fst < (2 : Int)) = true → True ∧ true = true) ∧
 (decide (x.snd.fst < (2 : Int)) = false →
 (decide (x.snd.fst > (200 : Int)) = true → True ∧ true = true) ∧
 (decide (x.snd.fst > (200 : Int)) = false →
 okL x.fst ∧
 (((rowsE x.fst x.snd.fst).snd.fst != (0 : Int)) = true → false = true) ∧
 (((rowsE x.fst x.snd.fst).snd.fst != (0 : Int)) = false →
 ((0 : Int) = (0 : Int) ∧
 x.snd.fst = x.snd.fst ∧
 (rowsE x.fst x.snd.fst).fst = (rowsE x.fst x.snd.fst).fst ∧
 (↑(List.length (rowsE x.fst x.snd.fst).fst) : Int) =
 (↑(List.length (rowsE x.fst x.snd.fst).fst) : Int)) ∧
 ∃ (Z : Int × Unit → Prop),
 ∃ (μ : Int × Unit → Nat),
 Z ((0 : Int), ()) ∧
 ∀ (a : Int),
 Z (a, ()) →
 (decide (a < (↑(List.length (rowsE x.fst x.snd.fst).fst) : Int)) = true →
 ((0 : Int) ≤ a ∧ a < (↑(List.length (rowsE x.fst x.snd.fst).fst) : Int)) ∧
 okW (List.getD (rowsE x.fst x.snd.fst).fst (Int.toNat a) (Ty.dflt t22)) ∧
 (decide
 (width
 (List.getD (rowsE x.fst x.snd.fst).fst (Int.toNat a)
 (Ty.dflt t22)) >
 x.snd.fst) =
 true →
 false = true) ∧
 (decide
 (width
 (List.getD (rowsE x.fst x.snd.fst).fst (Int.toNat a)
 (Ty.dflt t22)) >
 x.snd.fst) =
 false →
 (IntKind.wrap IntKind.i64 (a + (1 : Int)) =
 IntKind.wrap IntKind.i64 (a + (1 : Int)) ∧
 x.snd.fst = x.snd.fst ∧
 (rowsE x.fst x.snd.fst).fst = (rowsE x.fst x.snd.fst).fst ∧
 (↑(List.length (rowsE x.fst x.snd.fst).fst) : Int) =
 (↑(List.length (rowsE x.fst x.snd.fst).fst) : Int)) ∧
 Z (IntKind.wrap IntKind.i64 (a + (1 : Int)), ()) ∧
 μ (IntKind.wrap IntKind.i64 (a + (1 : Int)), ()) < μ (a, ()))) ∧
 (decide (a < (↑(List.length (rowsE x.fst x.snd.fst).fst) : Int)) = false →
 True ∧ true = true)))))
theorem vcEq4 : fnVC E4 Try.f4 (bodyOf Try.f4) cWrapWide = vc4 := by kernel_rfl
/- fn 5 -/
def hs5 : List (Nat × Nat × Hint) := [(0, 4, ⟨[.slot 25 t3], [0, 1, 23, 24], [], []⟩),
  (0, 14, ⟨[.rowS 9 900000009 t38 38, .slot 49 t3], [0, 47, 48], [], []⟩),
  (0, 17, ⟨[.rowS 9 900000009 t38 38, .slot 55 t3], [0, 47, 48, 49, 53, 54], [], []⟩)]
def nm5 : List Nat := []
noncomputable def E5 : Env := env tab [(8, cRight), (14, cWRight), (9, cHangs), (10, cRows), (16, cCells)] [] noGl hs5 nm5
def vc5 : Prop :=
 ∀ (x : List (Int × Int × Int × Int × Unit) × Int × Unit),
 List.length x.fst ≤ maxLen →
 List.length x.fst ≤ maxLen ∧
 ((!right x.fst) = true → True ∧ true = true) ∧
 ((!right x.fst) = false →
 True ∧
 ((!wRight x.snd.fst) = true → True ∧ true = true) ∧
 ((!wRight x.snd.fst) = false →
 ((0 : Int) = (0 : Int) ∧
 x.fst = x.fst ∧
 x.snd.fst = x.snd.fst ∧
 x.fst = x.fst ∧ (↑(List.length x.fst) : Int) = (↑(List.length x.fst) : Int)) ∧
 ∃ (Z : Int × Unit → Prop),
 ∃ (μ : Int × Unit → Nat),
 Z ((0 : Int), ()) ∧
 ∀ (a : Int),
 Z (a, ()) →
 (decide (a < (↑(List.length x.fst) : Int)) = true →
 ((0 : Int) ≤ a ∧ a < (↑(List.length x.fst) : Int)) ∧
 (((List.getD x.fst (Int.toNat a) (Ty.dflt t38)).snd.fst == (5 : Int)) = true →
 True ∧ true = true) ∧
 (((List.getD x.fst (Int.toNat a) (Ty.dflt t38)).snd.fst == (5 : Int)) = false →
 (IntKind.wrap IntKind.i64 (a + (1 : Int)) =
 IntKind.wrap IntKind.i64 (a + (1 : Int)) ∧
 x.fst = x.fst ∧
 x.snd.fst = x.snd.fst ∧
 x.fst = x.fst ∧
 (↑(List.length x.fst) : Int) = (↑(List.length x.fst) : Int)) ∧
 Z (IntKind.wrap IntKind.i64 (a + (1 : Int)), ()) ∧
 μ (IntKind.wrap IntKind.i64 (a + (1 : Int)), ()) < μ (a, ()))) ∧
 (decide (a < (↑(List.length x.fst) : Int)) = false →
 okL x.fst ∧
 (((rowsE x.fst x.snd.fst).snd.fst != (0 : Int)) = true → false = true) ∧
 (((rowsE x.fst x.snd.fst).snd.fst != (0 : Int)) = false →
 (((↑(List.length (rowsE x.fst x.snd.fst).fst) : Int) == (0 : Int)) = true →
 false = true) ∧
 (((↑(List.length (rowsE x.fst x.snd.fst).fst) : Int) == (0 : Int)) = false →
 (((0 : Int) = (0 : Int) ∧
 True ∧
 x.fst = x.fst ∧
 (rowsE x.fst x.snd.fst).fst = (rowsE x.fst x.snd.fst).fst ∧
 (↑(List.length (rowsE x.fst x.snd.fst).fst) : Int) =
 (↑(List.length (rowsE x.fst x.snd.fst).fst) : Int)) ∧
 True ∧ True) ∧
 ∃ (Z : List (Int × Int × Int × Int × Unit) × Int × Unit → Prop),
 ∃ (μ : List (Int × Int × Int × Int × Unit) × Int × Unit → Nat),
 Z ([], (0 : Int), ()) ∧
 ∀ (a : List (Int × Int × Int × Int × Unit)) (a_2 : Int),
 Z (a, a_2, ()) →
 (decide
 (a_2 <
 (↑(List.length (rowsE x.fst x.snd.fst).fst) : Int)) =
 true →
 ((0 : Int) ≤ a_2 ∧
 a_2 <
 (↑(List.length (rowsE x.fst x.snd.fst).fst) : Int)) ∧
 (((0 : Int) = (0 : Int) ∧
 True ∧
 x.fst = x.fst ∧
 (rowsE x.fst x.snd.fst).fst =
 (rowsE x.fst x.snd.fst).fst ∧
 (↑(List.length (rowsE x.fst x.snd.fst).fst) :
 Int) =
 (↑(List.length
 (rowsE x.fst x.snd.fst).fst) :
 Int) ∧
 a_2 = a_2 ∧
 List.getD (rowsE x.fst x.snd.fst).fst
 (Int.toNat a_2) (Ty.dflt t22) =
 List.getD (rowsE x.fst x.snd.fst).fst
 (Int.toNat a_2) (Ty.dflt t22) ∧
 (↑(List.length
 (List.getD
 (rowsE x.fst x.snd.fst).fst
 (Int.toNat a_2)
 (Ty.dflt t22))) :
 Int) =
 (↑(List.length
 (List.getD
 (rowsE x.fst x.snd.fst).fst
 (Int.toNat a_2)
 (Ty.dflt t22))) :
 Int)) ∧
 a = a ∧ True) ∧
 ∃ (Z_1 :
 List (Int × Int × Int × Int × Unit) × Int × Unit →
 Prop),
 ∃ (μ_1 :
 List (Int × Int × Int × Int × Unit) × Int × Unit →
 Nat),
 Z_1 (a, (0 : Int), ()) ∧
 ∀ (a_5 : List (Int × Int × Int × Int × Unit))
 (a_6 : Int),
 Z_1 (a_5, a_6, ()) →
 (decide
 (a_6 <
 (↑(List.length
 (List.getD
 (rowsE x.fst x.snd.fst).fst
 (Int.toNat a_2)
 (Ty.dflt t22))) :
 Int)) =
 true →
 ((0 : Int) ≤ a_6 ∧
 a_6 <
 (↑(List.length
 (List.getD
 (rowsE x.fst x.snd.fst).fst
 (Int.toNat a_2)
 (Ty.dflt t22))) :
 Int)) ∧
 (((List.getD
 (List.getD
 (rowsE x.fst
 x.snd.fst).fst
 (Int.toNat a_2)
 (Ty.dflt t22))
 (Int.toNat a_6)
 (Ty.dflt t38)).snd.fst !=
 (5 : Int)) =
 true →
 (List.length a_5 +
 List.length
 [List.getD
 (List.getD
 (rowsE x.fst
 x.snd.fst).fst
 (Int.toNat a_2)
 (Ty.dflt t22))
 (Int.toNat a_6)
 (Ty.dflt t38)]) *
 (32 : Nat) ≤
 (140737488355328 : Nat) ∧
 List.length a_5 +
 List.length
 [List.getD
 (List.getD
 (rowsE x.fst
 x.snd.fst).fst
 (Int.toNat a_2)
 (Ty.dflt t22))
 (Int.toNat a_6)
 (Ty.dflt t38)] ≤
 maxLen ∧
 ((IntKind.wrap IntKind.i64
 (a_6 + (1 : Int)) =
 IntKind.wrap IntKind.i64
 (a_6 + (1 : Int)) ∧
 True ∧
 x.fst = x.fst ∧
 (rowsE x.fst
 x.snd.fst).fst =
 (rowsE x.fst
 x.snd.fst).fst ∧
 (↑(List.length
 (rowsE x.fst
 x.snd.fst).fst) :
 Int) =
 (↑(List.length
 (rowsE x.fst
 x.snd.fst).fst) :
 Int) ∧
 a_2 = a_2 ∧
 List.getD
 (rowsE x.fst
 x.snd.fst).fst
 (Int.toNat
 a_2)
 (Ty.dflt
 t22) =
 List.getD
 (rowsE x.fst
 x.snd.fst).fst
 (Int.toNat
 a_2)
 (Ty.dflt
 t22) ∧
 (↑(List.length
 (List.getD
 (rowsE
 x.fst
 x.snd.fst).fst
 (Int.toNat
 a_2)
 (Ty.dflt
 t22))) :
 Int) =
 (↑(List.length
 (List.getD
 (rowsE
 x.fst
 x.snd.fst).fst
 (Int.toNat
 a_2)
 (Ty.dflt
 t22))) :
 Int)) ∧
 a_5 ++
 [List.getD
 (List.getD
 (rowsE x.fst
 x.snd.fst).fst
 (Int.toNat a_2)
 (Ty.dflt t22))
 (Int.toNat a_6)
 (Ty.dflt t38)] =
 a_5 ++
 [List.getD
 (List.getD
 (rowsE x.fst
 x.snd.fst).fst
 (Int.toNat a_2)
 (Ty.dflt t22))
 (Int.toNat a_6)
 (Ty.dflt t38)] ∧
 True) ∧
 Z_1
 (a_5 ++
 [List.getD
 (List.getD
 (rowsE x.fst
 x.snd.fst).fst
 (Int.toNat a_2)
 (Ty.dflt t22))
 (Int.toNat a_6)
 (Ty.dflt t38)],
 IntKind.wrap IntKind.i64
 (a_6 + (1 : Int)),
 ()) ∧
 μ_1
 (a_5 ++
 [List.getD
 (List.getD
 (rowsE x.fst
 x.snd.fst).fst
 (Int.toNat a_2)
 (Ty.dflt t22))
 (Int.toNat a_6)
 (Ty.dflt t38)],
 IntKind.wrap IntKind.i64
 (a_6 + (1 : Int)),
 ()) <
 μ_1 (a_5, a_6, ())) ∧
 (((List.getD
 (List.getD
 (rowsE x.fst
 x.snd.fst).fst
 (Int.toNat a_2)
 (Ty.dflt t22))
 (Int.toNat a_6)
 (Ty.dflt t38)).snd.fst !=
 (5 : Int)) =
 false →
 ((IntKind.wrap IntKind.i64
 (a_6 + (1 : Int)) =
 IntKind.wrap IntKind.i64
 (a_6 + (1 : Int)) ∧
 True ∧
 x.fst = x.fst ∧
 (rowsE x.fst
 x.snd.fst).fst =
 (rowsE x.fst
 x.snd.fst).fst ∧
 (↑(List.length
 (rowsE x.fst
 x.snd.fst).fst) :
 Int) =
 (↑(List.length
 (rowsE x.fst
 x.snd.fst).fst) :
 Int) ∧
 a_2 = a_2 ∧
 List.getD
 (rowsE x.fst
 x.snd.fst).fst
 (Int.toNat a_2)
 (Ty.dflt t22) =
 List.getD
 (rowsE x.fst
 x.snd.fst).fst
 (Int.toNat a_2)
 (Ty.dflt t22) ∧
 (↑(List.length
 (List.getD
 (rowsE
 x.fst
 x.snd.fst).fst
 (Int.toNat
 a_2)
 (Ty.dflt
 t22))) :
 Int) =
 (↑(List.length
 (List.getD
 (rowsE
 x.fst
 x.snd.fst).fst
 (Int.toNat
 a_2)
 (Ty.dflt
 t22))) :
 Int)) ∧
 a_5 = a_5 ∧ True) ∧
 Z_1
 (a_5,
 IntKind.wrap IntKind.i64
 (a_6 + (1 : Int)),
 ()) ∧
 μ_1
 (a_5,
 IntKind.wrap IntKind.i64
 (a_6 + (1 : Int)),
 ()) <
 μ_1 (a_5, a_6, ()))) ∧
 (decide
 (a_6 <
 (↑(List.length
 (List.getD
 (rowsE x.fst x.snd.fst).fst
 (Int.toNat a_2)
 (Ty.dflt t22))) :
 Int)) =
 false →
 ((IntKind.wrap IntKind.i64
 (a_2 + (1 : Int)) =
 IntKind.wrap IntKind.i64
 (a_2 + (1 : Int)) ∧
 True ∧
 x.fst = x.fst ∧
 (rowsE x.fst x.snd.fst).fst =
 (rowsE x.fst x.snd.fst).fst ∧
 (↑(List.length
 (rowsE x.fst
 x.snd.fst).fst) :
 Int) =
 (↑(List.length
 (rowsE x.fst
 x.snd.fst).fst) :
 Int)) ∧
 a_5 = a_5 ∧ True) ∧
 Z
 (a_5,
 IntKind.wrap IntKind.i64
 (a_2 + (1 : Int)),
 ()) ∧
 μ
 (a_5,
 IntKind.wrap IntKind.i64
 (a_2 + (1 : Int)),
 ()) <
 μ (a, a_2, ()))) ∧
 (decide
 (a_2 <
 (↑(List.length (rowsE x.fst x.snd.fst).fst) : Int)) =
 false →
 (List.length a ≤ maxLen ∧ List.length x.fst ≤ maxLen) ∧
 (decide (a = x.fst) = true → True ∧ true = true) ∧
 (decide (a = x.fst) = false → false = true)))))))
theorem vcEq5 : fnVC E5 Try.f5 (bodyOf Try.f5) cWrapKeeps = vc5 := by kernel_rfl
/- fn 6 -/
def hs6 : List (Nat × Nat × Hint) := [(0, 4, ⟨[.slot 26 t3], [0, 1, 24, 25], [], []⟩),
  (0, 14, ⟨[.slot 62 t3], [9, 60, 61], [], []⟩),
  (0, 18, ⟨[.slot 12 t3, .slot 69 t3], [9, 10, 11, 60, 61, 62, 67, 68], [], []⟩)]
def nm6 : List Nat := []
noncomputable def E6 : Env := env tab [(8, cRight), (14, cWRight), (9, cHangs), (10, cRows), (12, cHang)] [] noGl hs6 nm6
def vc6 : Prop :=
 ∀ (x : List (Int × Int × Int × Int × Unit) × Int × Unit),
 List.length x.fst ≤ maxLen →
 List.length x.fst ≤ maxLen ∧
 ((!right x.fst) = true → True ∧ true = true) ∧
 ((!right x.fst) = false →
 True ∧
 ((!wRight x.snd.fst) = true → True ∧ true = true) ∧
 ((!wRight x.snd.fst) = false →
 ((0 : Int) = (0 : Int) ∧
 x.fst = x.fst ∧
 x.snd.fst = x.snd.fst ∧
 x.fst = x.fst ∧ (↑(List.length x.fst) : Int) = (↑(List.length x.fst) : Int)) ∧
 ∃ (Z : Int × Unit → Prop),
 ∃ (μ : Int × Unit → Nat),
 Z ((0 : Int), ()) ∧
 ∀ (a : Int),
 Z (a, ()) →
 (decide (a < (↑(List.length x.fst) : Int)) = true →
 ((0 : Int) ≤ a ∧ a < (↑(List.length x.fst) : Int)) ∧
 (((List.getD x.fst (Int.toNat a) (Ty.dflt t38)).snd.fst == (5 : Int)) = true →
 True ∧ true = true) ∧
 (((List.getD x.fst (Int.toNat a) (Ty.dflt t38)).snd.fst == (5 : Int)) = false →
 (IntKind.wrap IntKind.i64 (a + (1 : Int)) =
 IntKind.wrap IntKind.i64 (a + (1 : Int)) ∧
 x.fst = x.fst ∧
 x.snd.fst = x.snd.fst ∧
 x.fst = x.fst ∧
 (↑(List.length x.fst) : Int) = (↑(List.length x.fst) : Int)) ∧
 Z (IntKind.wrap IntKind.i64 (a + (1 : Int)), ()) ∧
 μ (IntKind.wrap IntKind.i64 (a + (1 : Int)), ()) < μ (a, ()))) ∧
 (decide (a < (↑(List.length x.fst) : Int)) = false →
 okL x.fst ∧
 okL x.fst ∧
 (((rowsE x.fst x.snd.fst).snd.fst != (0 : Int)) = true → false = true) ∧
 (((rowsE x.fst x.snd.fst).snd.fst != (0 : Int)) = false →
 (decide (hang x.fst x.snd.fst > (8 : Int)) = true → false = true) ∧
 (decide (hang x.fst x.snd.fst > (8 : Int)) = false →
 (decide (hang x.fst x.snd.fst > (0 : Int)) = true →
 (decide
 (hang x.fst x.snd.fst >
 IntKind.wrap IntKind.i64 (x.snd.fst - (2 : Int))) =
 true →
 false = true) ∧
 (decide
 (hang x.fst x.snd.fst >
 IntKind.wrap IntKind.i64 (x.snd.fst - (2 : Int))) =
 false →
 ((0 : Int) = (0 : Int) ∧
 hang x.fst x.snd.fst = hang x.fst x.snd.fst ∧
 (rowsE x.fst x.snd.fst).fst = (rowsE x.fst x.snd.fst).fst ∧
 (↑(List.length (rowsE x.fst x.snd.fst).fst) : Int) =
 (↑(List.length (rowsE x.fst x.snd.fst).fst) : Int)) ∧
 ∃ (Z : Int × Unit → Prop),
 ∃ (μ : Int × Unit → Nat),
 Z ((0 : Int), ()) ∧
 ∀ (a : Int),
 Z (a, ()) →
 (decide
 (a <
 (↑(List.length (rowsE x.fst x.snd.fst).fst) :
 Int)) =
 true →
 ((0 : Int) ≤ a ∧
 a <
 (↑(List.length (rowsE x.fst x.snd.fst).fst) :
 Int)) ∧
 ((0 : Int) = (0 : Int) ∧
 (0 : Int) = (0 : Int) ∧
 hang x.fst x.snd.fst =
 hang x.fst x.snd.fst ∧
 a = a ∧
 List.getD (rowsE x.fst x.snd.fst).fst
 (Int.toNat a) (Ty.dflt t22) =
 List.getD
 (rowsE x.fst x.snd.fst).fst
 (Int.toNat a) (Ty.dflt t22) ∧
 (rowsE x.fst x.snd.fst).fst =
 (rowsE x.fst x.snd.fst).fst ∧
 (↑(List.length
 (rowsE x.fst
 x.snd.fst).fst) :
 Int) =
 (↑(List.length
 (rowsE x.fst
 x.snd.fst).fst) :
 Int) ∧
 a = a ∧
 List.getD
 (rowsE x.fst
 x.snd.fst).fst
 (Int.toNat a)
 (Ty.dflt t22) =
 List.getD
 (rowsE x.fst
 x.snd.fst).fst
 (Int.toNat a)
 (Ty.dflt t22) ∧
 (↑(List.length
 (List.getD
 (rowsE x.fst
 x.snd.fst).fst
 (Int.toNat a)
 (Ty.dflt t22))) :
 Int) =
 (↑(List.length
 (List.getD
 (rowsE x.fst
 x.snd.fst).fst
 (Int.toNat a)
 (Ty.dflt t22))) :
 Int)) ∧
 ∃ (Z_1 : Int × Int × Unit → Prop),
 ∃ (μ_1 : Int × Int × Unit → Nat),
 Z_1 ((0 : Int), (0 : Int), ()) ∧
 ∀ (a_4 a_5 : Int),
 Z_1 (a_4, a_5, ()) →
 (decide
 (a_5 <
 (↑(List.length
 (List.getD
 (rowsE x.fst
 x.snd.fst).fst
 (Int.toNat a)
 (Ty.dflt t22))) :
 Int)) =
 true →
 ((0 : Int) ≤ a_5 ∧
 a_5 <
 (↑(List.length
 (List.getD
 (rowsE x.fst
 x.snd.fst).fst
 (Int.toNat a)
 (Ty.dflt t22))) :
 Int)) ∧
 (((List.getD
 (List.getD
 (rowsE x.fst
 x.snd.fst).fst
 (Int.toNat a)
 (Ty.dflt t22))
 (Int.toNat a_5)
 (Ty.dflt
 t38)).snd.fst ==
 (5 : Int)) =
 true →
 (IntKind.wrap IntKind.i64
 (a_5 + (1 : Int)) =
 IntKind.wrap
 IntKind.i64
 (a_5 + (1 : Int)) ∧
 IntKind.wrap IntKind.i64
 (a_4 +
 (1 : Int)) =
 IntKind.wrap
 IntKind.i64
 (a_4 +
 (1 : Int)) ∧
 hang x.fst x.snd.fst =
 hang x.fst
 x.snd.fst ∧
 a = a ∧
 List.getD
 (rowsE x.fst
 x.snd.fst).fst
 (Int.toNat
 a)
 (Ty.dflt
 t22) =
 List.getD
 (rowsE x.fst
 x.snd.fst).fst
 (Int.toNat
 a)
 (Ty.dflt
 t22) ∧
 (rowsE x.fst
 x.snd.fst).fst =
 (rowsE x.fst
 x.snd.fst).fst ∧
 (↑(List.length
 (rowsE
 x.fst
 x.snd.fst).fst) :
 Int) =
 (↑(List.length
 (rowsE
 x.fst
 x.snd.fst).fst) :
 Int) ∧
 a = a ∧
 List.getD
 (rowsE
 x.fst
 x.snd.fst).fst
 (Int.toNat
 a)
 (Ty.dflt
 t22) =
 List.getD
 (rowsE
 x.fst
 x.snd.fst).fst
 (Int.toNat
 a)
 (Ty.dflt
 t22) ∧
 (↑(List.length
 (List.getD
 (rowsE
 x.fst
 x.snd.fst).fst
 (Int.toNat
 a)
 (Ty.dflt
 t22))) :
 Int) =
 (↑(List.length
 (List.getD
 (rowsE
 x.fst
 x.snd.fst).fst
 (Int.toNat
 a)
 (Ty.dflt
 t22))) :
 Int)) ∧
 Z_1
 (IntKind.wrap
 IntKind.i64
 (a_4 + (1 : Int)),
 IntKind.wrap
 IntKind.i64
 (a_5 + (1 : Int)),
 ()) ∧
 μ_1
 (IntKind.wrap
 IntKind.i64
 (a_4 +
 (1 : Int)),
 IntKind.wrap
 IntKind.i64
 (a_5 +
 (1 : Int)),
 ()) <
 μ_1 (a_4, a_5, ())) ∧
 (((List.getD
 (List.getD
 (rowsE x.fst
 x.snd.fst).fst
 (Int.toNat a)
 (Ty.dflt t22))
 (Int.toNat a_5)
 (Ty.dflt
 t38)).snd.fst ==
 (5 : Int)) =
 false →
 (IntKind.wrap IntKind.i64
 (a_5 + (1 : Int)) =
 IntKind.wrap
 IntKind.i64
 (a_5 + (1 : Int)) ∧
 a_4 = a_4 ∧
 hang x.fst x.snd.fst =
 hang x.fst
 x.snd.fst ∧
 a = a ∧
 List.getD
 (rowsE x.fst
 x.snd.fst).fst
 (Int.toNat
 a)
 (Ty.dflt
 t22) =
 List.getD
 (rowsE x.fst
 x.snd.fst).fst
 (Int.toNat
 a)
 (Ty.dflt
 t22) ∧
 (rowsE x.fst
 x.snd.fst).fst =
 (rowsE x.fst
 x.snd.fst).fst ∧
 (↑(List.length
 (rowsE
 x.fst
 x.snd.fst).fst) :
 Int) =
 (↑(List.length
 (rowsE
 x.fst
 x.snd.fst).fst) :
 Int) ∧
 a = a ∧
 List.getD
 (rowsE
 x.fst
 x.snd.fst).fst
 (Int.toNat
 a)
 (Ty.dflt
 t22) =
 List.getD
 (rowsE
 x.fst
 x.snd.fst).fst
 (Int.toNat
 a)
 (Ty.dflt
 t22) ∧
 (↑(List.length
 (List.getD
 (rowsE
 x.fst
 x.snd.fst).fst
 (Int.toNat
 a)
 (Ty.dflt
 t22))) :
 Int) =
 (↑(List.length
 (List.getD
 (rowsE
 x.fst
 x.snd.fst).fst
 (Int.toNat
 a)
 (Ty.dflt
 t22))) :
 Int)) ∧
 Z_1
 (a_4,
 IntKind.wrap
 IntKind.i64
 (a_5 + (1 : Int)),
 ()) ∧
 μ_1
 (a_4,
 IntKind.wrap
 IntKind.i64
 (a_5 +
 (1 : Int)),
 ()) <
 μ_1 (a_4, a_5, ()))) ∧
 (decide
 (a_5 <
 (↑(List.length
 (List.getD
 (rowsE x.fst
 x.snd.fst).fst
 (Int.toNat a)
 (Ty.dflt t22))) :
 Int)) =
 false →
 ((a == (0 : Int)) = true →
 (decide (a_4 > (0 : Int)) =
 true →
 false = true) ∧
 (decide (a_4 > (0 : Int)) =
 false →
 (decide (a > (0 : Int)) =
 true →
 ((a_4 !=
 hang x.fst
 x.snd.fst) =
 true →
 false = true) ∧
 ((a_4 !=
 hang x.fst
 x.snd.fst) =
 false →
 (decide
 ((↑(List.length
 (List.getD
 (rowsE
 x.fst
 x.snd.fst).fst
 (Int.toNat
 a)
 (Ty.dflt
 t22))) :
 Int) ≤
 a_4) =
 true →
 false =
 true) ∧
 (decide
 ((↑(List.length
 (List.getD
 (rowsE
 x.fst
 x.snd.fst).fst
 (Int.toNat
 a)
 (Ty.dflt
 t22))) :
 Int) ≤
 a_4) =
 false →
 (IntKind.wrap
 IntKind.i64
 (a +
 (1 :
 Int)) =
 IntKind.wrap
 IntKind.i64
 (a +
 (1 :
 Int)) ∧
 hang x.fst
 x.snd.fst =
 hang
 x.fst
 x.snd.fst ∧
 (rowsE
 x.fst
 x.snd.fst).fst =
 (rowsE
 x.fst
 x.snd.fst).fst ∧
 (↑(List.length
 (rowsE
 x.fst
 x.snd.fst).fst) :
 Int) =
 (↑(List.length
 (rowsE
 x.fst
 x.snd.fst).fst) :
 Int)) ∧
 Z
 (IntKind.wrap
 IntKind.i64
 (a +
 (1 :
 Int)),
 ()) ∧
 μ
 (IntKind.wrap
 IntKind.i64
 (a +
 (1 :
 Int)),
 ()) <
 μ
 (a,
 ())))) ∧
 (decide
 (a > (0 : Int)) =
 false →
 (IntKind.wrap
 IntKind.i64
 (a +
 (1 : Int)) =
 IntKind.wrap
 IntKind.i64
 (a +
 (1 : Int)) ∧
 hang x.fst
 x.snd.fst =
 hang x.fst
 x.snd.fst ∧
 (rowsE x.fst
 x.snd.fst).fst =
 (rowsE x.fst
 x.snd.fst).fst ∧
 (↑(List.length
 (rowsE
 x.fst
 x.snd.fst).fst) :
 Int) =
 (↑(List.length
 (rowsE
 x.fst
 x.snd.fst).fst) :
 Int)) ∧
 Z
 (IntKind.wrap
 IntKind.i64
 (a +
 (1 :
 Int)),
 ()) ∧
 μ
 (IntKind.wrap
 IntKind.i64
 (a +
 (1 :
 Int)),
 ()) <
 μ (a, ())))) ∧
 ((a == (0 : Int)) = false →
 (decide (a > (0 : Int)) =
 true →
 ((a_4 !=
 hang x.fst
 x.snd.fst) =
 true →
 false = true) ∧
 ((a_4 !=
 hang x.fst
 x.snd.fst) =
 false →
 (decide
 ((↑(List.length
 (List.getD
 (rowsE
 x.fst
 x.snd.fst).fst
 (Int.toNat
 a)
 (Ty.dflt
 t22))) :
 Int) ≤
 a_4) =
 true →
 false = true) ∧
 (decide
 ((↑(List.length
 (List.getD
 (rowsE
 x.fst
 x.snd.fst).fst
 (Int.toNat
 a)
 (Ty.dflt
 t22))) :
 Int) ≤
 a_4) =
 false →
 (IntKind.wrap
 IntKind.i64
 (a +
 (1 :
 Int)) =
 IntKind.wrap
 IntKind.i64
 (a +
 (1 :
 Int)) ∧
 hang x.fst
 x.snd.fst =
 hang x.fst
 x.snd.fst ∧
 (rowsE x.fst
 x.snd.fst).fst =
 (rowsE
 x.fst
 x.snd.fst).fst ∧
 (↑(List.length
 (rowsE
 x.fst
 x.snd.fst).fst) :
 Int) =
 (↑(List.length
 (rowsE
 x.fst
 x.snd.fst).fst) :
 Int)) ∧
 Z
 (IntKind.wrap
 IntKind.i64
 (a +
 (1 :
 Int)),
 ()) ∧
 μ
 (IntKind.wrap
 IntKind.i64
 (a +
 (1 :
 Int)),
 ()) <
 μ
 (a,
 ())))) ∧
 (decide (a > (0 : Int)) =
 false →
 (IntKind.wrap IntKind.i64
 (a + (1 : Int)) =
 IntKind.wrap
 IntKind.i64
 (a + (1 : Int)) ∧
 hang x.fst x.snd.fst =
 hang x.fst
 x.snd.fst ∧
 (rowsE x.fst
 x.snd.fst).fst =
 (rowsE x.fst
 x.snd.fst).fst ∧
 (↑(List.length
 (rowsE
 x.fst
 x.snd.fst).fst) :
 Int) =
 (↑(List.length
 (rowsE
 x.fst
 x.snd.fst).fst) :
 Int)) ∧
 Z
 (IntKind.wrap
 IntKind.i64
 (a + (1 : Int)),
 ()) ∧
 μ
 (IntKind.wrap
 IntKind.i64
 (a +
 (1 : Int)),
 ()) <
 μ (a, ()))))) ∧
 (decide
 (a <
 (↑(List.length (rowsE x.fst x.snd.fst).fst) :
 Int)) =
 false →
 True ∧ true = true))) ∧
 (decide (hang x.fst x.snd.fst > (0 : Int)) = false →
 ((0 : Int) = (0 : Int) ∧
 hang x.fst x.snd.fst = hang x.fst x.snd.fst ∧
 (rowsE x.fst x.snd.fst).fst = (rowsE x.fst x.snd.fst).fst ∧
 (↑(List.length (rowsE x.fst x.snd.fst).fst) : Int) =
 (↑(List.length (rowsE x.fst x.snd.fst).fst) : Int)) ∧
 ∃ (Z : Int × Unit → Prop),
 ∃ (μ : Int × Unit → Nat),
 Z ((0 : Int), ()) ∧
 ∀ (a : Int),
 Z (a, ()) →
 (decide
 (a <
 (↑(List.length (rowsE x.fst x.snd.fst).fst) :
 Int)) =
 true →
 ((0 : Int) ≤ a ∧
 a <
 (↑(List.length (rowsE x.fst x.snd.fst).fst) :
 Int)) ∧
 ((0 : Int) = (0 : Int) ∧
 (0 : Int) = (0 : Int) ∧
 hang x.fst x.snd.fst = hang x.fst x.snd.fst ∧
 a = a ∧
 List.getD (rowsE x.fst x.snd.fst).fst
 (Int.toNat a) (Ty.dflt t22) =
 List.getD (rowsE x.fst x.snd.fst).fst
 (Int.toNat a) (Ty.dflt t22) ∧
 (rowsE x.fst x.snd.fst).fst =
 (rowsE x.fst x.snd.fst).fst ∧
 (↑(List.length
 (rowsE x.fst x.snd.fst).fst) :
 Int) =
 (↑(List.length
 (rowsE x.fst x.snd.fst).fst) :
 Int) ∧
 a = a ∧
 List.getD
 (rowsE x.fst x.snd.fst).fst
 (Int.toNat a) (Ty.dflt t22) =
 List.getD
 (rowsE x.fst x.snd.fst).fst
 (Int.toNat a) (Ty.dflt t22) ∧
 (↑(List.length
 (List.getD
 (rowsE x.fst
 x.snd.fst).fst
 (Int.toNat a)
 (Ty.dflt t22))) :
 Int) =
 (↑(List.length
 (List.getD
 (rowsE x.fst
 x.snd.fst).fst
 (Int.toNat a)
 (Ty.dflt t22))) :
 Int)) ∧
 ∃ (Z_1 : Int × Int × Unit → Prop),
 ∃ (μ_1 : Int × Int × Unit → Nat),
 Z_1 ((0 : Int), (0 : Int), ()) ∧
 ∀ (a_4 a_5 : Int),
 Z_1 (a_4, a_5, ()) →
 (decide
 (a_5 <
 (↑(List.length
 (List.getD
 (rowsE x.fst
 x.snd.fst).fst
 (Int.toNat a)
 (Ty.dflt t22))) :
 Int)) =
 true →
 ((0 : Int) ≤ a_5 ∧
 a_5 <
 (↑(List.length
 (List.getD
 (rowsE x.fst
 x.snd.fst).fst
 (Int.toNat a)
 (Ty.dflt t22))) :
 Int)) ∧
 (((List.getD
 (List.getD
 (rowsE x.fst
 x.snd.fst).fst
 (Int.toNat a)
 (Ty.dflt t22))
 (Int.toNat a_5)
 (Ty.dflt
 t38)).snd.fst ==
 (5 : Int)) =
 true →
 (IntKind.wrap IntKind.i64
 (a_5 + (1 : Int)) =
 IntKind.wrap IntKind.i64
 (a_5 + (1 : Int)) ∧
 IntKind.wrap IntKind.i64
 (a_4 + (1 : Int)) =
 IntKind.wrap IntKind.i64
 (a_4 + (1 : Int)) ∧
 hang x.fst x.snd.fst =
 hang x.fst x.snd.fst ∧
 a = a ∧
 List.getD
 (rowsE x.fst
 x.snd.fst).fst
 (Int.toNat a)
 (Ty.dflt t22) =
 List.getD
 (rowsE x.fst
 x.snd.fst).fst
 (Int.toNat a)
 (Ty.dflt t22) ∧
 (rowsE x.fst
 x.snd.fst).fst =
 (rowsE x.fst
 x.snd.fst).fst ∧
 (↑(List.length
 (rowsE
 x.fst
 x.snd.fst).fst) :
 Int) =
 (↑(List.length
 (rowsE
 x.fst
 x.snd.fst).fst) :
 Int) ∧
 a = a ∧
 List.getD
 (rowsE
 x.fst
 x.snd.fst).fst
 (Int.toNat
 a)
 (Ty.dflt
 t22) =
 List.getD
 (rowsE
 x.fst
 x.snd.fst).fst
 (Int.toNat
 a)
 (Ty.dflt
 t22) ∧
 (↑(List.length
 (List.getD
 (rowsE
 x.fst
 x.snd.fst).fst
 (Int.toNat
 a)
 (Ty.dflt
 t22))) :
 Int) =
 (↑(List.length
 (List.getD
 (rowsE
 x.fst
 x.snd.fst).fst
 (Int.toNat
 a)
 (Ty.dflt
 t22))) :
 Int)) ∧
 Z_1
 (IntKind.wrap IntKind.i64
 (a_4 + (1 : Int)),
 IntKind.wrap IntKind.i64
 (a_5 + (1 : Int)),
 ()) ∧
 μ_1
 (IntKind.wrap
 IntKind.i64
 (a_4 + (1 : Int)),
 IntKind.wrap
 IntKind.i64
 (a_5 + (1 : Int)),
 ()) <
 μ_1 (a_4, a_5, ())) ∧
 (((List.getD
 (List.getD
 (rowsE x.fst
 x.snd.fst).fst
 (Int.toNat a)
 (Ty.dflt t22))
 (Int.toNat a_5)
 (Ty.dflt
 t38)).snd.fst ==
 (5 : Int)) =
 false →
 (IntKind.wrap IntKind.i64
 (a_5 + (1 : Int)) =
 IntKind.wrap IntKind.i64
 (a_5 + (1 : Int)) ∧
 a_4 = a_4 ∧
 hang x.fst x.snd.fst =
 hang x.fst x.snd.fst ∧
 a = a ∧
 List.getD
 (rowsE x.fst
 x.snd.fst).fst
 (Int.toNat a)
 (Ty.dflt t22) =
 List.getD
 (rowsE x.fst
 x.snd.fst).fst
 (Int.toNat a)
 (Ty.dflt t22) ∧
 (rowsE x.fst
 x.snd.fst).fst =
 (rowsE x.fst
 x.snd.fst).fst ∧
 (↑(List.length
 (rowsE
 x.fst
 x.snd.fst).fst) :
 Int) =
 (↑(List.length
 (rowsE
 x.fst
 x.snd.fst).fst) :
 Int) ∧
 a = a ∧
 List.getD
 (rowsE
 x.fst
 x.snd.fst).fst
 (Int.toNat
 a)
 (Ty.dflt
 t22) =
 List.getD
 (rowsE
 x.fst
 x.snd.fst).fst
 (Int.toNat
 a)
 (Ty.dflt
 t22) ∧
 (↑(List.length
 (List.getD
 (rowsE
 x.fst
 x.snd.fst).fst
 (Int.toNat
 a)
 (Ty.dflt
 t22))) :
 Int) =
 (↑(List.length
 (List.getD
 (rowsE
 x.fst
 x.snd.fst).fst
 (Int.toNat
 a)
 (Ty.dflt
 t22))) :
 Int)) ∧
 Z_1
 (a_4,
 IntKind.wrap IntKind.i64
 (a_5 + (1 : Int)),
 ()) ∧
 μ_1
 (a_4,
 IntKind.wrap
 IntKind.i64
 (a_5 + (1 : Int)),
 ()) <
 μ_1 (a_4, a_5, ()))) ∧
 (decide
 (a_5 <
 (↑(List.length
 (List.getD
 (rowsE x.fst
 x.snd.fst).fst
 (Int.toNat a)
 (Ty.dflt t22))) :
 Int)) =
 false →
 ((a == (0 : Int)) = true →
 (decide (a_4 > (0 : Int)) = true →
 false = true) ∧
 (decide (a_4 > (0 : Int)) =
 false →
 (decide (a > (0 : Int)) =
 true →
 ((a_4 !=
 hang x.fst
 x.snd.fst) =
 true →
 false = true) ∧
 ((a_4 !=
 hang x.fst
 x.snd.fst) =
 false →
 (decide
 ((↑(List.length
 (List.getD
 (rowsE
 x.fst
 x.snd.fst).fst
 (Int.toNat
 a)
 (Ty.dflt
 t22))) :
 Int) ≤
 a_4) =
 true →
 false = true) ∧
 (decide
 ((↑(List.length
 (List.getD
 (rowsE
 x.fst
 x.snd.fst).fst
 (Int.toNat
 a)
 (Ty.dflt
 t22))) :
 Int) ≤
 a_4) =
 false →
 (IntKind.wrap
 IntKind.i64
 (a +
 (1 :
 Int)) =
 IntKind.wrap
 IntKind.i64
 (a +
 (1 :
 Int)) ∧
 hang x.fst
 x.snd.fst =
 hang x.fst
 x.snd.fst ∧
 (rowsE x.fst
 x.snd.fst).fst =
 (rowsE
 x.fst
 x.snd.fst).fst ∧
 (↑(List.length
 (rowsE
 x.fst
 x.snd.fst).fst) :
 Int) =
 (↑(List.length
 (rowsE
 x.fst
 x.snd.fst).fst) :
 Int)) ∧
 Z
 (IntKind.wrap
 IntKind.i64
 (a +
 (1 :
 Int)),
 ()) ∧
 μ
 (IntKind.wrap
 IntKind.i64
 (a +
 (1 :
 Int)),
 ()) <
 μ
 (a,
 ())))) ∧
 (decide (a > (0 : Int)) =
 false →
 (IntKind.wrap IntKind.i64
 (a + (1 : Int)) =
 IntKind.wrap
 IntKind.i64
 (a + (1 : Int)) ∧
 hang x.fst x.snd.fst =
 hang x.fst
 x.snd.fst ∧
 (rowsE x.fst
 x.snd.fst).fst =
 (rowsE x.fst
 x.snd.fst).fst ∧
 (↑(List.length
 (rowsE
 x.fst
 x.snd.fst).fst) :
 Int) =
 (↑(List.length
 (rowsE
 x.fst
 x.snd.fst).fst) :
 Int)) ∧
 Z
 (IntKind.wrap
 IntKind.i64
 (a + (1 : Int)),
 ()) ∧
 μ
 (IntKind.wrap
 IntKind.i64
 (a +
 (1 : Int)),
 ()) <
 μ (a, ())))) ∧
 ((a == (0 : Int)) = false →
 (decide (a > (0 : Int)) = true →
 ((a_4 !=
 hang x.fst
 x.snd.fst) =
 true →
 false = true) ∧
 ((a_4 !=
 hang x.fst
 x.snd.fst) =
 false →
 (decide
 ((↑(List.length
 (List.getD
 (rowsE
 x.fst
 x.snd.fst).fst
 (Int.toNat
 a)
 (Ty.dflt
 t22))) :
 Int) ≤
 a_4) =
 true →
 false = true) ∧
 (decide
 ((↑(List.length
 (List.getD
 (rowsE
 x.fst
 x.snd.fst).fst
 (Int.toNat
 a)
 (Ty.dflt
 t22))) :
 Int) ≤
 a_4) =
 false →
 (IntKind.wrap
 IntKind.i64
 (a +
 (1 : Int)) =
 IntKind.wrap
 IntKind.i64
 (a +
 (1 : Int)) ∧
 hang x.fst
 x.snd.fst =
 hang x.fst
 x.snd.fst ∧
 (rowsE x.fst
 x.snd.fst).fst =
 (rowsE x.fst
 x.snd.fst).fst ∧
 (↑(List.length
 (rowsE
 x.fst
 x.snd.fst).fst) :
 Int) =
 (↑(List.length
 (rowsE
 x.fst
 x.snd.fst).fst) :
 Int)) ∧
 Z
 (IntKind.wrap
 IntKind.i64
 (a +
 (1 :
 Int)),
 ()) ∧
 μ
 (IntKind.wrap
 IntKind.i64
 (a +
 (1 :
 Int)),
 ()) <
 μ (a, ())))) ∧
 (decide (a > (0 : Int)) =
 false →
 (IntKind.wrap IntKind.i64
 (a + (1 : Int)) =
 IntKind.wrap IntKind.i64
 (a + (1 : Int)) ∧
 hang x.fst x.snd.fst =
 hang x.fst x.snd.fst ∧
 (rowsE x.fst
 x.snd.fst).fst =
 (rowsE x.fst
 x.snd.fst).fst ∧
 (↑(List.length
 (rowsE x.fst
 x.snd.fst).fst) :
 Int) =
 (↑(List.length
 (rowsE x.fst
 x.snd.fst).fst) :
 Int)) ∧
 Z
 (IntKind.wrap
 IntKind.i64
 (a + (1 : Int)),
 ()) ∧
 μ
 (IntKind.wrap
 IntKind.i64
 (a + (1 : Int)),
 ()) <
 μ (a, ()))))) ∧
 (decide
 (a <
 (↑(List.length (rowsE x.fst x.snd.fst).fst) :
 Int)) =
 false →
 True ∧ true = true)))))))
theorem vcEq6 : fnVC E6 Try.f6 (bodyOf Try.f6) cWrapHangs = vc6 := by kernel_rfl
/- fn 7 -/
def hs7 : List (Nat × Nat × Hint) := []
def nm7 : List Nat := []
noncomputable def E7 : Env := env tab [(8, cRight), (9, cHangs), (10, cRows), (16, cCells), (17, cWidth)] [] noGl hs7 nm7
def vc7 : Prop :=
 ∀ (x : List (Int × Int × Int × Int × Unit) × Unit),
 List.length x.fst ≤ maxLen →
 List.length x.fst ≤ maxLen ∧
 ((!right x.fst) = true → True ∧ true = true) ∧
 ((!right x.fst) = false →
 okL x.fst ∧
 (((rowsE x.fst (0 : Int)).snd.fst != (0 : Int)) = true → false = true) ∧
 (((rowsE x.fst (0 : Int)).snd.fst != (0 : Int)) = false →
 (((↑(List.length (rowsE x.fst (0 : Int)).fst) : Int) != (1 : Int)) = true → false = true) ∧
 (((↑(List.length (rowsE x.fst (0 : Int)).fst) : Int) != (1 : Int)) = false →
 ((0 : Int) ≤ (0 : Int) ∧ (0 : Int) < (↑(List.length (rowsE x.fst (0 : Int)).fst) : Int)) ∧
 (List.length (List.getD (rowsE x.fst (0 : Int)).fst (Int.toNat (0 : Int)) (Ty.dflt t22)) ≤
 maxLen ∧
 List.length x.fst ≤ maxLen) ∧
 ((!decide (List.getD (rowsE x.fst (0 : Int)).fst (Int.toNat (0 : Int)) (Ty.dflt t22) = x.fst)) =
 true →
 false = true) ∧
 ((!decide
 (List.getD (rowsE x.fst (0 : Int)).fst (Int.toNat (0 : Int)) (Ty.dflt t22) = x.fst)) =
 false →
 okW x.fst ∧
 (decide (width x.fst < (1 : Int)) = true → True ∧ true = true) ∧
 (decide (width x.fst < (1 : Int)) = false →
 (decide (width x.fst > (200 : Int)) = true → True ∧ true = true) ∧
 (decide (width x.fst > (200 : Int)) = false →
 okL x.fst ∧
 (((rowsE x.fst (width x.fst)).snd.fst == (0 : Int)) = true →
 (((↑(List.length (rowsE x.fst (width x.fst)).fst) : Int) == (1 : Int)) =
 true →
 ((0 : Int) ≤ (0 : Int) ∧
 (0 : Int) <
 (↑(List.length (rowsE x.fst (width x.fst)).fst) : Int)) ∧
 (List.length
 (List.getD (rowsE x.fst (width x.fst)).fst
 (Int.toNat (0 : Int)) (Ty.dflt t22)) ≤
 maxLen ∧
 List.length x.fst ≤ maxLen) ∧
 (decide
 (List.getD (rowsE x.fst (width x.fst)).fst
 (Int.toNat (0 : Int)) (Ty.dflt t22) =
 x.fst) =
 true →
 True ∧ true = true) ∧
 (decide
 (List.getD (rowsE x.fst (width x.fst)).fst
 (Int.toNat (0 : Int)) (Ty.dflt t22) =
 x.fst) =
 false →
 false = true)) ∧
 (((↑(List.length (rowsE x.fst (width x.fst)).fst) : Int) == (1 : Int)) =
 false →
 false = true)) ∧
 (((rowsE x.fst (width x.fst)).snd.fst == (0 : Int)) = false →
 false = true)))))))
theorem vcEq7 : fnVC E7 Try.f7 (bodyOf Try.f7) cWrapOne = vc7 := by kernel_rfl
/- fn 8 -/
def hs8 : List (Nat × Nat × Hint) := [(0, 4, ⟨[.slot 10 t3], [8, 9], [], []⟩)]
def nm8 : List Nat := []
noncomputable def E8 : Env := env tab [] [] noGl hs8 nm8
def vc8 : Prop :=
 ∀ (x : List (Int × Int × Int × Int × Unit) × Unit),
 List.length x.fst ≤ maxLen →
 (decide ((↑(List.length x.fst) : Int) > (200 : Int)) = true → false = right x.fst) ∧
 (decide ((↑(List.length x.fst) : Int) > (200 : Int)) = false →
 ((0 : Int) = (0 : Int) ∧ x.fst = x.fst ∧ (↑(List.length x.fst) : Int) = (↑(List.length x.fst) : Int)) ∧
 ∃ (Z : Int × Unit → Prop),
 ∃ (μ : Int × Unit → Nat),
 Z ((0 : Int), ()) ∧
 ∀ (a : Int),
 Z (a, ()) →
 (decide (a < (↑(List.length x.fst) : Int)) = true →
 ((0 : Int) ≤ a ∧ a < (↑(List.length x.fst) : Int)) ∧
 (decide ((List.getD x.fst (Int.toNat a) (Ty.dflt t38)).snd.snd.fst < (0 : Int)) = true →
 false = right x.fst) ∧
 (decide ((List.getD x.fst (Int.toNat a) (Ty.dflt t38)).snd.snd.fst < (0 : Int)) = false →
 (decide ((List.getD x.fst (Int.toNat a) (Ty.dflt t38)).snd.snd.fst > (2 : Int)) = true →
 false = right x.fst) ∧
 (decide ((List.getD x.fst (Int.toNat a) (Ty.dflt t38)).snd.snd.fst > (2 : Int)) =
 false →
 (IntKind.wrap IntKind.i64 (a + (1 : Int)) = IntKind.wrap IntKind.i64 (a + (1 : Int)) ∧
 x.fst = x.fst ∧ (↑(List.length x.fst) : Int) = (↑(List.length x.fst) : Int)) ∧
 Z (IntKind.wrap IntKind.i64 (a + (1 : Int)), ()) ∧
 μ (IntKind.wrap IntKind.i64 (a + (1 : Int)), ()) < μ (a, ())))) ∧
 (decide (a < (↑(List.length x.fst) : Int)) = false → true = right x.fst))
theorem vcEq8 : fnVC E8 Try.f8 (bodyOf Try.f8) cRight = vc8 := by kernel_rfl
/- fn 9 -/
def hs9 : List (Nat × Nat × Hint) := []
def nm9 : List Nat := []
noncomputable def E9 : Env := env tab [(10, cRows), (11, cCount), (12, cHang)] [] noGl hs9 nm9
def vc9 : Prop :=
 ∀ (x : Unit),
 True →
 okL
 [((32 : Int), (0 : Int), (1 : Int), (0 : Int), ()), ((97 : Int), (0 : Int), (1 : Int), (0 : Int), ()),
 ((32 : Int), (0 : Int), (1 : Int), (2 : Int), ()), ((99 : Int), (0 : Int), (1 : Int), (3 : Int), ()),
 ((100 : Int), (0 : Int), (1 : Int), (4 : Int), ())] ∧
 okL
 [((32 : Int), (0 : Int), (1 : Int), (0 : Int), ()), ((97 : Int), (0 : Int), (1 : Int), (0 : Int), ()),
 ((32 : Int), (0 : Int), (1 : Int), (2 : Int), ()), ((99 : Int), (0 : Int), (1 : Int), (3 : Int), ()),
 ((100 : Int), (0 : Int), (1 : Int), (4 : Int), ())] ∧
 (((rowsE
 [((32 : Int), (0 : Int), (1 : Int), (0 : Int), ()),
 ((97 : Int), (0 : Int), (1 : Int), (0 : Int), ()),
 ((32 : Int), (0 : Int), (1 : Int), (2 : Int), ()),
 ((99 : Int), (0 : Int), (1 : Int), (3 : Int), ()),
 ((100 : Int), (0 : Int), (1 : Int), (4 : Int), ())]
 (4 : Int)).snd.fst ==
 (0 : Int)) =
 true →
 (((countE
 [((32 : Int), (0 : Int), (1 : Int), (0 : Int), ()),
 ((97 : Int), (0 : Int), (1 : Int), (0 : Int), ()),
 ((32 : Int), (0 : Int), (1 : Int), (2 : Int), ()),
 ((99 : Int), (0 : Int), (1 : Int), (3 : Int), ()),
 ((100 : Int), (0 : Int), (1 : Int), (4 : Int), ())]
 (4 : Int)).snd.snd.fst ==
 (0 : Int)) =
 true →
 (((↑(List.length
 (rowsE
 [((32 : Int), (0 : Int), (1 : Int), (0 : Int), ()),
 ((97 : Int), (0 : Int), (1 : Int), (0 : Int), ()),
 ((32 : Int), (0 : Int), (1 : Int), (2 : Int), ()),
 ((99 : Int), (0 : Int), (1 : Int), (3 : Int), ()),
 ((100 : Int), (0 : Int), (1 : Int), (4 : Int), ())]
 (4 : Int)).fst) :
 Int) ==
 (2 : Int)) =
 true →
 ((0 : Int) ≤ (0 : Int) ∧
 (0 : Int) <
 (↑(List.length
 (rowsE
 [((32 : Int), (0 : Int), (1 : Int), (0 : Int), ()),
 ((97 : Int), (0 : Int), (1 : Int), (0 : Int), ()),
 ((32 : Int), (0 : Int), (1 : Int), (2 : Int), ()),
 ((99 : Int), (0 : Int), (1 : Int), (3 : Int), ()),
 ((100 : Int), (0 : Int), (1 : Int), (4 : Int), ())]
 (4 : Int)).fst) :
 Int)) ∧
 (((↑(List.length
 (List.getD
 (rowsE
 [((32 : Int), (0 : Int), (1 : Int), (0 : Int), ()),
 ((97 : Int), (0 : Int), (1 : Int), (0 : Int), ()),
 ((32 : Int), (0 : Int), (1 : Int), (2 : Int), ()),
 ((99 : Int), (0 : Int), (1 : Int), (3 : Int), ()),
 ((100 : Int), (0 : Int), (1 : Int), (4 : Int), ())]
 (4 : Int)).fst
 (Int.toNat (0 : Int)) (Ty.dflt t22))) :
 Int) ==
 (3 : Int)) =
 true →
 ((0 : Int) ≤ (1 : Int) ∧
 (1 : Int) <
 (↑(List.length
 (rowsE
 [((32 : Int), (0 : Int), (1 : Int), (0 : Int), ()),
 ((97 : Int), (0 : Int), (1 : Int), (0 : Int), ()),
 ((32 : Int), (0 : Int), (1 : Int), (2 : Int), ()),
 ((99 : Int), (0 : Int), (1 : Int), (3 : Int), ()),
 ((100 : Int), (0 : Int), (1 : Int), (4 : Int), ())]
 (4 : Int)).fst) :
 Int)) ∧
 (((↑(List.length
 (List.getD
 (rowsE
 [((32 : Int), (0 : Int), (1 : Int), (0 : Int), ()),
 ((97 : Int), (0 : Int), (1 : Int), (0 : Int), ()),
 ((32 : Int), (0 : Int), (1 : Int), (2 : Int), ()),
 ((99 : Int), (0 : Int), (1 : Int), (3 : Int), ()),
 ((100 : Int), (0 : Int), (1 : Int), (4 : Int), ())]
 (4 : Int)).fst
 (Int.toNat (1 : Int)) (Ty.dflt t22))) :
 Int) ==
 (3 : Int)) =
 true →
 ((0 : Int) ≤ (1 : Int) ∧
 (1 : Int) <
 (↑(List.length
 (rowsE
 [((32 : Int), (0 : Int), (1 : Int), (0 : Int), ()),
 ((97 : Int), (0 : Int), (1 : Int), (0 : Int), ()),
 ((32 : Int), (0 : Int), (1 : Int), (2 : Int), ()),
 ((99 : Int), (0 : Int), (1 : Int), (3 : Int), ()),
 ((100 : Int), (0 : Int), (1 : Int), (4 : Int), ())]
 (4 : Int)).fst) :
 Int)) ∧
 ((0 : Int) ≤ (0 : Int) ∧
 (0 : Int) <
 (↑(List.length
 (List.getD
 (rowsE
 [((32 : Int), (0 : Int), (1 : Int), (0 : Int), ()),
 ((97 : Int), (0 : Int), (1 : Int), (0 : Int), ()),
 ((32 : Int), (0 : Int), (1 : Int), (2 : Int), ()),
 ((99 : Int), (0 : Int), (1 : Int), (3 : Int), ()),
 ((100 : Int), (0 : Int), (1 : Int), (4 : Int), ())]
 (4 : Int)).fst
 (Int.toNat (1 : Int)) (Ty.dflt t22))) :
 Int)) ∧
 (Ty.beq t38
 (List.getD
 (List.getD
 (rowsE
 [((32 : Int), (0 : Int), (1 : Int), (0 : Int), ()),
 ((97 : Int), (0 : Int), (1 : Int), (0 : Int), ()),
 ((32 : Int), (0 : Int), (1 : Int), (2 : Int), ()),
 ((99 : Int), (0 : Int), (1 : Int), (3 : Int), ()),
 ((100 : Int), (0 : Int), (1 : Int), (4 : Int), ())]
 (4 : Int)).fst
 (Int.toNat (1 : Int)) (Ty.dflt t22))
 (Int.toNat (0 : Int)) (Ty.dflt t38))
 ((32 : Int), (5 : Int), (1 : Int), (3 : Int), ()) =
 true →
 (((countE
 [((32 : Int), (0 : Int), (1 : Int), (0 : Int), ()),
 ((97 : Int), (0 : Int), (1 : Int), (0 : Int), ()),
 ((32 : Int), (0 : Int), (1 : Int), (2 : Int), ()),
 ((99 : Int), (0 : Int), (1 : Int), (3 : Int), ()),
 ((100 : Int), (0 : Int), (1 : Int), (4 : Int), ())]
 (4 : Int)).fst ==
 (2 : Int)) =
 true →
 (((countE
 [((32 : Int), (0 : Int), (1 : Int), (0 : Int), ()),
 ((97 : Int), (0 : Int), (1 : Int), (0 : Int), ()),
 ((32 : Int), (0 : Int), (1 : Int), (2 : Int), ()),
 ((99 : Int), (0 : Int), (1 : Int), (3 : Int), ()),
 ((100 : Int), (0 : Int), (1 : Int), (4 : Int), ())]
 (4 : Int)).snd.fst ==
 (3 : Int)) =
 true →
 okL
 [((32 : Int), (0 : Int), (1 : Int), (0 : Int), ()),
 ((97 : Int), (0 : Int), (1 : Int), (0 : Int), ()),
 ((32 : Int), (0 : Int), (1 : Int), (2 : Int), ()),
 ((99 : Int), (0 : Int), (1 : Int), (3 : Int), ()),
 ((100 : Int), (0 : Int), (1 : Int), (4 : Int), ())] ∧
 (hang
 [((32 : Int), (0 : Int), (1 : Int), (0 : Int), ()),
 ((97 : Int), (0 : Int), (1 : Int), (0 : Int), ()),
 ((32 : Int), (0 : Int), (1 : Int), (2 : Int), ()),
 ((99 : Int), (0 : Int), (1 : Int), (3 : Int), ()),
 ((100 : Int), (0 : Int), (1 : Int), (4 : Int), ())]
 (4 : Int) ==
 (1 : Int)) =
 true) ∧
 (((countE
 [((32 : Int), (0 : Int), (1 : Int), (0 : Int), ()),
 ((97 : Int), (0 : Int), (1 : Int), (0 : Int), ()),
 ((32 : Int), (0 : Int), (1 : Int), (2 : Int), ()),
 ((99 : Int), (0 : Int), (1 : Int), (3 : Int), ()),
 ((100 : Int), (0 : Int), (1 : Int), (4 : Int), ())]
 (4 : Int)).snd.fst ==
 (3 : Int)) =
 false →
 false = true)) ∧
 (((countE
 [((32 : Int), (0 : Int), (1 : Int), (0 : Int), ()),
 ((97 : Int), (0 : Int), (1 : Int), (0 : Int), ()),
 ((32 : Int), (0 : Int), (1 : Int), (2 : Int), ()),
 ((99 : Int), (0 : Int), (1 : Int), (3 : Int), ()),
 ((100 : Int), (0 : Int), (1 : Int), (4 : Int), ())]
 (4 : Int)).fst ==
 (2 : Int)) =
 false →
 false = true)) ∧
 (Ty.beq t38
 (List.getD
 (List.getD
 (rowsE
 [((32 : Int), (0 : Int), (1 : Int), (0 : Int), ()),
 ((97 : Int), (0 : Int), (1 : Int), (0 : Int), ()),
 ((32 : Int), (0 : Int), (1 : Int), (2 : Int), ()),
 ((99 : Int), (0 : Int), (1 : Int), (3 : Int), ()),
 ((100 : Int), (0 : Int), (1 : Int), (4 : Int), ())]
 (4 : Int)).fst
 (Int.toNat (1 : Int)) (Ty.dflt t22))
 (Int.toNat (0 : Int)) (Ty.dflt t38))
 ((32 : Int), (5 : Int), (1 : Int), (3 : Int), ()) =
 false →
 false = true)) ∧
 (((↑(List.length
 (List.getD
 (rowsE
 [((32 : Int), (0 : Int), (1 : Int), (0 : Int), ()),
 ((97 : Int), (0 : Int), (1 : Int), (0 : Int), ()),
 ((32 : Int), (0 : Int), (1 : Int), (2 : Int), ()),
 ((99 : Int), (0 : Int), (1 : Int), (3 : Int), ()),
 ((100 : Int), (0 : Int), (1 : Int), (4 : Int), ())]
 (4 : Int)).fst
 (Int.toNat (1 : Int)) (Ty.dflt t22))) :
 Int) ==
 (3 : Int)) =
 false →
 false = true)) ∧
 (((↑(List.length
 (List.getD
 (rowsE
 [((32 : Int), (0 : Int), (1 : Int), (0 : Int), ()),
 ((97 : Int), (0 : Int), (1 : Int), (0 : Int), ()),
 ((32 : Int), (0 : Int), (1 : Int), (2 : Int), ()),
 ((99 : Int), (0 : Int), (1 : Int), (3 : Int), ()),
 ((100 : Int), (0 : Int), (1 : Int), (4 : Int), ())]
 (4 : Int)).fst
 (Int.toNat (0 : Int)) (Ty.dflt t22))) :
 Int) ==
 (3 : Int)) =
 false →
 false = true)) ∧
 (((↑(List.length
 (rowsE
 [((32 : Int), (0 : Int), (1 : Int), (0 : Int), ()),
 ((97 : Int), (0 : Int), (1 : Int), (0 : Int), ()),
 ((32 : Int), (0 : Int), (1 : Int), (2 : Int), ()),
 ((99 : Int), (0 : Int), (1 : Int), (3 : Int), ()),
 ((100 : Int), (0 : Int), (1 : Int), (4 : Int), ())]
 (4 : Int)).fst) :
 Int) ==
 (2 : Int)) =
 false →
 false = true)) ∧
 (((countE
 [((32 : Int), (0 : Int), (1 : Int), (0 : Int), ()),
 ((97 : Int), (0 : Int), (1 : Int), (0 : Int), ()),
 ((32 : Int), (0 : Int), (1 : Int), (2 : Int), ()),
 ((99 : Int), (0 : Int), (1 : Int), (3 : Int), ()),
 ((100 : Int), (0 : Int), (1 : Int), (4 : Int), ())]
 (4 : Int)).snd.snd.fst ==
 (0 : Int)) =
 false →
 false = true)) ∧
 (((rowsE
 [((32 : Int), (0 : Int), (1 : Int), (0 : Int), ()),
 ((97 : Int), (0 : Int), (1 : Int), (0 : Int), ()),
 ((32 : Int), (0 : Int), (1 : Int), (2 : Int), ()),
 ((99 : Int), (0 : Int), (1 : Int), (3 : Int), ()),
 ((100 : Int), (0 : Int), (1 : Int), (4 : Int), ())]
 (4 : Int)).snd.fst ==
 (0 : Int)) =
 false →
 false = true)
theorem vcEq9 : fnVC E9 Try.f9 (bodyOf Try.f9) cHangs = vc9 := by kernel_rfl
/- fn 10 -/
def hs10 : List (Nat × Nat × Hint) := [(0, 6, ⟨[.slot 0 t22, .rowS 6 900000006 t22 22, .slot 21 t3], [7, 19, 20], [], []⟩)]
def nm10 : List Nat := []
noncomputable def E10 : Env := env tab [(18, cWRight), (12, cHang), (19, cWTakes), (20, cBehind)] [] noGl hs10 nm10
def vc10 : Prop :=
 ∀ (x : List (Int × Int × Int × Int × Unit) × Int × Unit),
 okL x.fst →
 True ∧
 ((!wRight x.snd.fst) = true → ([], (1 : Int), ()) = rowsE x.fst x.snd.fst) ∧
 ((!wRight x.snd.fst) = false →
 okL x.fst ∧
 (okL x.fst ∧ (0 : Int) ≤ x.snd.fst ∧ x.snd.fst ≤ (200 : Int)) ∧
 (((0 : Int) = (0 : Int) ∧
 True ∧
 x.fst = x.fst ∧
 hang x.fst x.snd.fst = hang x.fst x.snd.fst ∧
 wtakes x.fst x.snd.fst = wtakes x.fst x.snd.fst ∧
 (↑(List.length (wtakes x.fst x.snd.fst)) : Int) =
 (↑(List.length (wtakes x.fst x.snd.fst)) : Int)) ∧
 True ∧ True) ∧
 ∃ (Z :
 List (Int × Int × Int × Int × Unit) × List (List (Int × Int × Int × Int × Unit)) × Int × Unit → Prop),
 ∃ (μ :
 List (Int × Int × Int × Int × Unit) × List (List (Int × Int × Int × Int × Unit)) × Int × Unit →
 Nat),
 Z (x.fst, [], (0 : Int), ()) ∧
 ∀ (a : List (Int × Int × Int × Int × Unit)) (a_1 : List (List (Int × Int × Int × Int × Unit)))
 (a_2 : Int),
 Z (a, a_1, a_2, ()) →
 (decide (a_2 < (↑(List.length (wtakes x.fst x.snd.fst)) : Int)) = true →
 ((0 : Int) ≤ a_2 ∧ a_2 < (↑(List.length (wtakes x.fst x.snd.fst)) : Int)) ∧
 ((a_2 == (0 : Int)) = true →
 ((0 : Int) ≤ List.getD (wtakes x.fst x.snd.fst) (Int.toNat a_2) (Ty.dflt t3) ∧
 List.getD (wtakes x.fst x.snd.fst) (Int.toNat a_2) (Ty.dflt t3) ≤
 (↑(List.length a) : Int)) ∧
 ((0 : Int) ≤ (0 : Int) ∧
 (0 : Int) ≤ (8 : Int) ∧
 List.length
 (List.take
 (Int.toNat
 (List.getD (wtakes x.fst x.snd.fst) (Int.toNat a_2) (Ty.dflt t3)))
 a) ≤
 (200 : Nat) ∧
 ((0 : Int) <
 ((0 : Int),
 List.take
 (Int.toNat
 (List.getD (cWTakes.fn (x.fst, x.snd.fst, ()))
 (Int.toNat (a, a_1, a_2, ()).snd.snd.fst) (Ty.dflt t3)))
 (a, a_1, a_2, ()).fst,
 ()).fst →
 ((0 : Int),
 List.take
 (Int.toNat
 (List.getD (cWTakes.fn (x.fst, x.snd.fst, ()))
 (Int.toNat (a, a_1, a_2, ()).snd.snd.fst) (Ty.dflt t3)))
 (a, a_1, a_2, ()).fst,
 ()).snd.fst ≠
 [])) ∧
 (List.length a_1 +
 List.length
 [behind (0 : Int)
 (List.take
 (Int.toNat
 (List.getD (wtakes x.fst x.snd.fst) (Int.toNat a_2)
 (Ty.dflt t3)))
 a)]) *
 (24 : Nat) ≤
 (140737488355328 : Nat) ∧
 List.length a_1 +
 List.length
 [behind (0 : Int)
 (List.take
 (Int.toNat
 (List.getD (wtakes x.fst x.snd.fst) (Int.toNat a_2)
 (Ty.dflt t3)))
 a)] ≤
 maxLen ∧
 ((0 : Int) ≤
 List.getD (wtakes x.fst x.snd.fst) (Int.toNat a_2) (Ty.dflt t3) ∧
 List.getD (wtakes x.fst x.snd.fst) (Int.toNat a_2) (Ty.dflt t3) ≤
 (↑(List.length a) : Int)) ∧
 ((IntKind.wrap IntKind.i64 (a_2 + (1 : Int)) =
 IntKind.wrap IntKind.i64 (a_2 + (1 : Int)) ∧
 True ∧
 List.drop
 (Int.toNat
 (List.getD (wtakes x.fst x.snd.fst) (Int.toNat a_2)
 (Ty.dflt t3)))
 a =
 List.drop
 (Int.toNat
 (List.getD (wtakes x.fst x.snd.fst) (Int.toNat a_2)
 (Ty.dflt t3)))
 a ∧
 hang x.fst x.snd.fst = hang x.fst x.snd.fst ∧
 wtakes x.fst x.snd.fst = wtakes x.fst x.snd.fst ∧
 (↑(List.length (wtakes x.fst x.snd.fst)) : Int) =
 (↑(List.length (wtakes x.fst x.snd.fst)) : Int)) ∧
 a_1 ++
 [behind (0 : Int)
 (List.take
 (Int.toNat
 (List.getD (wtakes x.fst x.snd.fst) (Int.toNat a_2)
 (Ty.dflt t3)))
 a)] =
 a_1 ++
 [behind (0 : Int)
 (List.take
 (Int.toNat
 (List.getD (wtakes x.fst x.snd.fst) (Int.toNat a_2)
 (Ty.dflt t3)))
 a)] ∧
 True) ∧
 Z
 (List.drop
 (Int.toNat
 (List.getD (wtakes x.fst x.snd.fst) (Int.toNat a_2)
 (Ty.dflt t3)))
 a,
 a_1 ++
 [behind (0 : Int)
 (List.take
 (Int.toNat
 (List.getD (wtakes x.fst x.snd.fst) (Int.toNat a_2)
 (Ty.dflt t3)))
 a)],
 IntKind.wrap IntKind.i64 (a_2 + (1 : Int)), ()) ∧
 μ
 (List.drop
 (Int.toNat
 (List.getD (wtakes x.fst x.snd.fst) (Int.toNat a_2)
 (Ty.dflt t3)))
 a,
 a_1 ++
 [behind (0 : Int)
 (List.take
 (Int.toNat
 (List.getD (wtakes x.fst x.snd.fst) (Int.toNat a_2)
 (Ty.dflt t3)))
 a)],
 IntKind.wrap IntKind.i64 (a_2 + (1 : Int)), ()) <
 μ (a, a_1, a_2, ())) ∧
 ((a_2 == (0 : Int)) = false →
 ((0 : Int) ≤ List.getD (wtakes x.fst x.snd.fst) (Int.toNat a_2) (Ty.dflt t3) ∧
 List.getD (wtakes x.fst x.snd.fst) (Int.toNat a_2) (Ty.dflt t3) ≤
 (↑(List.length a) : Int)) ∧
 ((0 : Int) ≤ hang x.fst x.snd.fst ∧
 hang x.fst x.snd.fst ≤ (8 : Int) ∧
 List.length
 (List.take
 (Int.toNat
 (List.getD (wtakes x.fst x.snd.fst) (Int.toNat a_2) (Ty.dflt t3)))
 a) ≤
 (200 : Nat) ∧
 ((0 : Int) <
 (cHang.fn (x.fst, x.snd.fst, ()),
 List.take
 (Int.toNat
 (List.getD (cWTakes.fn (x.fst, x.snd.fst, ()))
 (Int.toNat (a, a_1, a_2, ()).snd.snd.fst) (Ty.dflt t3)))
 (a, a_1, a_2, ()).fst,
 ()).fst →
 (cHang.fn (x.fst, x.snd.fst, ()),
 List.take
 (Int.toNat
 (List.getD (cWTakes.fn (x.fst, x.snd.fst, ()))
 (Int.toNat (a, a_1, a_2, ()).snd.snd.fst) (Ty.dflt t3)))
 (a, a_1, a_2, ()).fst,
 ()).snd.fst ≠
 [])) ∧
 (List.length a_1 +
 List.length
 [behind (hang x.fst x.snd.fst)
 (List.take
 (Int.toNat
 (List.getD (wtakes x.fst x.snd.fst) (Int.toNat a_2)
 (Ty.dflt t3)))
 a)]) *
 (24 : Nat) ≤
 (140737488355328 : Nat) ∧
 List.length a_1 +
 List.length
 [behind (hang x.fst x.snd.fst)
 (List.take
 (Int.toNat
 (List.getD (wtakes x.fst x.snd.fst) (Int.toNat a_2)
 (Ty.dflt t3)))
 a)] ≤
 maxLen ∧
 ((0 : Int) ≤
 List.getD (wtakes x.fst x.snd.fst) (Int.toNat a_2) (Ty.dflt t3) ∧
 List.getD (wtakes x.fst x.snd.fst) (Int.toNat a_2) (Ty.dflt t3) ≤
 (↑(List.length a) : Int)) ∧
 ((IntKind.wrap IntKind.i64 (a_2 + (1 : Int)) =
 IntKind.wrap IntKind.i64 (a_2 + (1 : Int)) ∧
 True ∧
 List.drop
 (Int.toNat
 (List.getD (wtakes x.fst x.snd.fst) (Int.toNat a_2)
 (Ty.dflt t3)))
 a =
 List.drop
 (Int.toNat
 (List.getD (wtakes x.fst x.snd.fst) (Int.toNat a_2)
 (Ty.dflt t3)))
 a ∧
 hang x.fst x.snd.fst = hang x.fst x.snd.fst ∧
 wtakes x.fst x.snd.fst = wtakes x.fst x.snd.fst ∧
 (↑(List.length (wtakes x.fst x.snd.fst)) : Int) =
 (↑(List.length (wtakes x.fst x.snd.fst)) : Int)) ∧
 a_1 ++
 [behind (hang x.fst x.snd.fst)
 (List.take
 (Int.toNat
 (List.getD (wtakes x.fst x.snd.fst) (Int.toNat a_2)
 (Ty.dflt t3)))
 a)] =
 a_1 ++
 [behind (hang x.fst x.snd.fst)
 (List.take
 (Int.toNat
 (List.getD (wtakes x.fst x.snd.fst) (Int.toNat a_2)
 (Ty.dflt t3)))
 a)] ∧
 True) ∧
 Z
 (List.drop
 (Int.toNat
 (List.getD (wtakes x.fst x.snd.fst) (Int.toNat a_2)
 (Ty.dflt t3)))
 a,
 a_1 ++
 [behind (hang x.fst x.snd.fst)
 (List.take
 (Int.toNat
 (List.getD (wtakes x.fst x.snd.fst) (Int.toNat a_2)
 (Ty.dflt t3)))
 a)],
 IntKind.wrap IntKind.i64 (a_2 + (1 : Int)), ()) ∧
 μ
 (List.drop
 (Int.toNat
 (List.getD (wtakes x.fst x.snd.fst) (Int.toNat a_2)
 (Ty.dflt t3)))
 a,
 a_1 ++
 [behind (hang x.fst x.snd.fst)
 (List.take
 (Int.toNat
 (List.getD (wtakes x.fst x.snd.fst) (Int.toNat a_2)
 (Ty.dflt t3)))
 a)],
 IntKind.wrap IntKind.i64 (a_2 + (1 : Int)), ()) <
 μ (a, a_1, a_2, ()))) ∧
 (decide (a_2 < (↑(List.length (wtakes x.fst x.snd.fst)) : Int)) = false →
 (a_1, (0 : Int), ()) = rowsE x.fst x.snd.fst))
theorem vcEq10 : fnVC E10 Try.f10 (bodyOf Try.f10) cRows = vc10 := by kernel_rfl
/- fn 11 -/
def hs11 : List (Nat × Nat × Hint) := [(0, 4, ⟨[.slot 9 t3, .slot 20 t3], [7, 8, 18, 19], [], []⟩)]
def nm11 : List Nat := []
noncomputable def E11 : Env := env tab [(10, cRows), (21, cWidth)] [] noGl hs11 nm11
def vc11 : Prop :=
 ∀ (x : List (Int × Int × Int × Int × Unit) × Int × Unit),
 okL x.fst →
 okL x.fst ∧
 ((0 : Int) = (0 : Int) ∧
 (0 : Int) = (0 : Int) ∧
 (rowsE x.fst x.snd.fst).fst = (rowsE x.fst x.snd.fst).fst ∧
 (rowsE x.fst x.snd.fst).snd.fst = (rowsE x.fst x.snd.fst).snd.fst ∧
 (rowsE x.fst x.snd.fst).fst = (rowsE x.fst x.snd.fst).fst ∧
 (↑(List.length (rowsE x.fst x.snd.fst).fst) : Int) =
 (↑(List.length (rowsE x.fst x.snd.fst).fst) : Int)) ∧
 ∃ (Z : Int × Int × Unit → Prop),
 ∃ (μ : Int × Int × Unit → Nat),
 Z ((0 : Int), (0 : Int), ()) ∧
 ∀ (a a_1 : Int),
 Z (a, a_1, ()) →
 (decide (a_1 < (↑(List.length (rowsE x.fst x.snd.fst).fst) : Int)) = true →
 ((0 : Int) ≤ a_1 ∧ a_1 < (↑(List.length (rowsE x.fst x.snd.fst).fst) : Int)) ∧
 okW (List.getD (rowsE x.fst x.snd.fst).fst (Int.toNat a_1) (Ty.dflt t22)) ∧
 (IntKind.wrap IntKind.i64 (a_1 + (1 : Int)) = IntKind.wrap IntKind.i64 (a_1 + (1 : Int)) ∧
 ((if a < width (List.getD (rowsE x.fst x.snd.fst).fst (Int.toNat a_1) (Ty.dflt t22)) then
 width (List.getD (rowsE x.fst x.snd.fst).fst (Int.toNat a_1) (Ty.dflt t22))
 else a) =
 if
 a <
 width (List.getD (rowsE x.fst x.snd.fst).fst (Int.toNat a_1) (Ty.dflt t22)) then
 width (List.getD (rowsE x.fst x.snd.fst).fst (Int.toNat a_1) (Ty.dflt t22))
 else a) ∧
 (rowsE x.fst x.snd.fst).fst = (rowsE x.fst x.snd.fst).fst ∧
 (rowsE x.fst x.snd.fst).snd.fst = (rowsE x.fst x.snd.fst).snd.fst ∧
 (rowsE x.fst x.snd.fst).fst = (rowsE x.fst x.snd.fst).fst ∧
 (↑(List.length (rowsE x.fst x.snd.fst).fst) : Int) =
 (↑(List.length (rowsE x.fst x.snd.fst).fst) : Int)) ∧
 Z
 (if a < width (List.getD (rowsE x.fst x.snd.fst).fst (Int.toNat a_1) (Ty.dflt t22)) then
 width (List.getD (rowsE x.fst x.snd.fst).fst (Int.toNat a_1) (Ty.dflt t22))
 else a,
 IntKind.wrap IntKind.i64 (a_1 + (1 : Int)), ()) ∧
 μ
 (if
 a <
 width
 (List.getD (rowsE x.fst x.snd.fst).fst (Int.toNat a_1) (Ty.dflt t22)) then
 width (List.getD (rowsE x.fst x.snd.fst).fst (Int.toNat a_1) (Ty.dflt t22))
 else a,
 IntKind.wrap IntKind.i64 (a_1 + (1 : Int)), ()) <
 μ (a, a_1, ())) ∧
 (decide (a_1 < (↑(List.length (rowsE x.fst x.snd.fst).fst) : Int)) = false →
 ((↑(List.length (rowsE x.fst x.snd.fst).fst) : Int), a, (rowsE x.fst x.snd.fst).snd) =
 countE x.fst x.snd.fst)
theorem vcEq11 : fnVC E11 Try.f11 (bodyOf Try.f11) cCount = vc11 := by kernel_rfl
/- fn 12 -/
def hs12 : List (Nat × Nat × Hint) := []
def nm12 : List Nat := []
noncomputable def E12 : Env := env tab [(22, cIndent), (18, cWRight)] [] noGl hs12 nm12
def vc12 : Prop :=
 ∀ (x : List (Int × Int × Int × Int × Unit) × Int × Unit),
 okL x.fst →
 okL x.fst ∧
 True ∧
 ((!wRight x.snd.fst) = true → (0 : Int) = hang x.fst x.snd.fst) ∧
 ((!wRight x.snd.fst) = false →
 (decide (x.snd.fst < IntKind.wrap IntKind.i64 (indent x.fst + (2 : Int))) = true →
 (0 : Int) = hang x.fst x.snd.fst) ∧
 (decide (x.snd.fst < IntKind.wrap IntKind.i64 (indent x.fst + (2 : Int))) = false →
 indent x.fst = hang x.fst x.snd.fst))
theorem vcEq12 : fnVC E12 Try.f12 (bodyOf Try.f12) cHang = vc12 := by kernel_rfl
/- fn 13 -/
def hs13 : List (Nat × Nat × Hint) := []
def nm13 : List Nat := []
noncomputable def E13 : Env := env tab [(23, cIndent), (14, cWRight)] [] noGl hs13 nm13
def vc13 : Prop :=
 ∀ (x : List (Int × Int × Int × Int × Unit) × Int × Unit),
 okL x.fst →
 okL x.fst ∧
 True ∧
 ((!wRight x.snd.fst) = true → (0 : Int) = hang x.fst x.snd.fst) ∧
 ((!wRight x.snd.fst) = false →
 (decide (IntKind.wrap IntKind.i64 (x.snd.fst - (2 : Int)) < indent x.fst) = true →
 (0 : Int) = hang x.fst x.snd.fst) ∧
 (decide (IntKind.wrap IntKind.i64 (x.snd.fst - (2 : Int)) < indent x.fst) = false →
 indent x.fst = hang x.fst x.snd.fst))
theorem vcEq13 : fnVC E13 Try.f13 (bodyOf Try.f13) cHang = vc13 := by kernel_rfl
/- fn 14 -/
def hs14 : List (Nat × Nat × Hint) := []
def nm14 : List Nat := []
noncomputable def E14 : Env := env tab [] [] noGl hs14 nm14
def vc14 : Prop :=
 ∀ (x : Int × Unit),
 True →
 (decide (x.fst ≥ (0 : Int)) = true → decide (x.fst ≤ (200 : Int)) = wRight x.fst) ∧
 (decide (x.fst ≥ (0 : Int)) = false → false = wRight x.fst)
theorem vcEq14 : fnVC E14 Try.f14 (bodyOf Try.f14) cWRight = vc14 := by kernel_rfl
/- fn 15 -/
def hs15 : List (Nat × Nat × Hint) := [(0, 8, ⟨[.rowS 7 900000007 t22 22, .slot 8 t3, .slot 30 t3], [0, 6, 28, 29], [], []⟩),
  (0, 12, ⟨[.rowS 11 900000011 t38 38, .slot 12 t3], [0, 6, 7, 8, 9, 10, 28, 29, 30], [], [64, 900000007]⟩)]
def nm15 : List Nat := []
noncomputable def E15 : Env := env tab [(13, cHang), (24, cRAll)] [] noGl hs15 nm15
def vc15 : Prop :=
 ∀ (x : List (Int × Int × Int × Int × Unit) × Int × Unit),
 okL x.fst ∧ (0 : Int) ≤ x.snd.fst ∧ x.snd.fst ≤ (200 : Int) →
 okL x.fst ∧
 (decide (x.snd.fst > (0 : Int)) = true →
 okL x.fst ∧
 (((0 : Int) = (0 : Int) ∧
 (0 : Int) = (0 : Int) ∧
 True ∧
 x.fst = x.fst ∧
 hang x.fst x.snd.fst = hang x.fst x.snd.fst ∧
 allR x.fst x.snd.fst (IntKind.wrap IntKind.i64 (x.snd.fst - hang x.fst x.snd.fst)) =
 allR x.fst x.snd.fst (IntKind.wrap IntKind.i64 (x.snd.fst - hang x.fst x.snd.fst)) ∧
 (↑(List.length
 (allR x.fst x.snd.fst
 (IntKind.wrap IntKind.i64 (x.snd.fst - hang x.fst x.snd.fst)))) :
 Int) =
 (↑(List.length
 (allR x.fst x.snd.fst
 (IntKind.wrap IntKind.i64 (x.snd.fst - hang x.fst x.snd.fst)))) :
 Int)) ∧
 True ∧ True) ∧
 ∃ (Z : List (List (Int × Int × Int × Int × Unit)) × Int × Int × Unit → Prop),
 ∃ (μ : List (List (Int × Int × Int × Int × Unit)) × Int × Int × Unit → Nat),
 Z ([], (0 : Int), (0 : Int), ()) ∧
 ∀ (a : List (List (Int × Int × Int × Int × Unit))) (a_1 a_2 : Int),
 Z (a, a_1, a_2, ()) →
 (decide
 (a_2 <
 (↑(List.length
 (allR x.fst x.snd.fst
 (IntKind.wrap IntKind.i64 (x.snd.fst - hang x.fst x.snd.fst)))) :
 Int)) =
 true →
 ((0 : Int) ≤ a_2 ∧
 a_2 <
 (↑(List.length
 (allR x.fst x.snd.fst
 (IntKind.wrap IntKind.i64 (x.snd.fst - hang x.fst x.snd.fst)))) :
 Int)) ∧
 (((0 : Int) = (0 : Int) ∧
 True ∧
 x.fst = x.fst ∧
 hang x.fst x.snd.fst = hang x.fst x.snd.fst ∧
 True ∧
 a_1 = a_1 ∧
 a_2 = a_2 ∧
 List.getD
 (allR x.fst x.snd.fst
 (IntKind.wrap IntKind.i64 (x.snd.fst - hang x.fst x.snd.fst)))
 (Int.toNat a_2) (Ty.dflt t3) =
 List.getD
 (allR x.fst x.snd.fst
 (IntKind.wrap IntKind.i64 (x.snd.fst - hang x.fst x.snd.fst)))
 (Int.toNat a_2) (Ty.dflt t3) ∧
 allR x.fst x.snd.fst
 (IntKind.wrap IntKind.i64 (x.snd.fst - hang x.fst x.snd.fst)) =
 allR x.fst x.snd.fst
 (IntKind.wrap IntKind.i64 (x.snd.fst - hang x.fst x.snd.fst)) ∧
 (↑(List.length
 (allR x.fst x.snd.fst
 (IntKind.wrap IntKind.i64
 (x.snd.fst - hang x.fst x.snd.fst)))) :
 Int) =
 (↑(List.length
 (allR x.fst x.snd.fst
 (IntKind.wrap IntKind.i64
 (x.snd.fst - hang x.fst x.snd.fst)))) :
 Int) ∧
 a_2 = a_2) ∧
 True ∧ a = a ∧ True) ∧
 ∃ (Z_1 : List (Int × Int × Int × Int × Unit) × Int × Unit → Prop),
 ∃ (μ_1 : List (Int × Int × Int × Int × Unit) × Int × Unit → Nat),
 Z_1 ([], (0 : Int), ()) ∧
 ∀ (a_5 : List (Int × Int × Int × Int × Unit)) (a_6 : Int),
 Z_1 (a_5, a_6, ()) →
 (decide (a_2 > (0 : Int)) = true →
 (decide (a_6 < hang x.fst x.snd.fst) = true →
 ((0 : Int) ≤ a_1 ∧ a_1 < (↑(List.length x.fst) : Int)) ∧
 (List.length a_5 +
 List.length
 [((32 : Int), (5 : Int), (1 : Int),
 (List.getD x.fst (Int.toNat a_1)
 (Ty.dflt t38)).snd.snd.snd)]) *
 (32 : Nat) ≤
 (140737488355328 : Nat) ∧
 List.length a_5 +
 List.length
 [((32 : Int), (5 : Int), (1 : Int),
 (List.getD x.fst (Int.toNat a_1)
 (Ty.dflt t38)).snd.snd.snd)] ≤
 maxLen ∧
 ((IntKind.wrap IntKind.i64 (a_6 + (1 : Int)) =
 IntKind.wrap IntKind.i64 (a_6 + (1 : Int)) ∧
 True ∧
 x.fst = x.fst ∧
 hang x.fst x.snd.fst = hang x.fst x.snd.fst ∧
 True ∧
 a_1 = a_1 ∧
 a_2 = a_2 ∧
 List.getD
 (allR x.fst x.snd.fst
 (IntKind.wrap IntKind.i64
 (x.snd.fst - hang x.fst x.snd.fst)))
 (Int.toNat a_2) (Ty.dflt t3) =
 List.getD
 (allR x.fst x.snd.fst
 (IntKind.wrap IntKind.i64
 (x.snd.fst - hang x.fst x.snd.fst)))
 (Int.toNat a_2) (Ty.dflt t3) ∧
 allR x.fst x.snd.fst
 (IntKind.wrap IntKind.i64
 (x.snd.fst -
 hang x.fst x.snd.fst)) =
 allR x.fst x.snd.fst
 (IntKind.wrap IntKind.i64
 (x.snd.fst -
 hang x.fst x.snd.fst)) ∧
 (↑(List.length
 (allR x.fst x.snd.fst
 (IntKind.wrap IntKind.i64
 (x.snd.fst -
 hang x.fst x.snd.fst)))) :
 Int) =
 (↑(List.length
 (allR x.fst x.snd.fst
 (IntKind.wrap IntKind.i64
 (x.snd.fst -
 hang x.fst x.snd.fst)))) :
 Int) ∧
 a_2 = a_2) ∧
 a_5 ++
 [((32 : Int), (5 : Int), (1 : Int),
 (List.getD x.fst (Int.toNat a_1)
 (Ty.dflt t38)).snd.snd.snd)] =
 a_5 ++
 [((32 : Int), (5 : Int), (1 : Int),
 (List.getD x.fst (Int.toNat a_1)
 (Ty.dflt t38)).snd.snd.snd)] ∧
 a = a ∧ True) ∧
 Z_1
 (a_5 ++
 [((32 : Int), (5 : Int), (1 : Int),
 (List.getD x.fst (Int.toNat a_1)
 (Ty.dflt t38)).snd.snd.snd)],
 IntKind.wrap IntKind.i64 (a_6 + (1 : Int)), ()) ∧
 μ_1
 (a_5 ++
 [((32 : Int), (5 : Int), (1 : Int),
 (List.getD x.fst (Int.toNat a_1)
 (Ty.dflt t38)).snd.snd.snd)],
 IntKind.wrap IntKind.i64 (a_6 + (1 : Int)), ()) <
 μ_1 (a_5, a_6, ())) ∧
 (decide (a_6 < hang x.fst x.snd.fst) = false →
 ((0 : Int) ≤ a_1 ∧
 a_1 ≤
 IntKind.wrap IntKind.i64
 (a_1 +
 List.getD
 (allR x.fst x.snd.fst
 (IntKind.wrap IntKind.i64
 (x.snd.fst - hang x.fst x.snd.fst)))
 (Int.toNat a_2) (Ty.dflt t3)) ∧
 IntKind.wrap IntKind.i64
 (a_1 +
 List.getD
 (allR x.fst x.snd.fst
 (IntKind.wrap IntKind.i64
 (x.snd.fst - hang x.fst x.snd.fst)))
 (Int.toNat a_2) (Ty.dflt t3)) ≤
 (↑(List.length x.fst) : Int)) ∧
 (List.length a_5 +
 List.length
 (List.drop (Int.toNat a_1)
 (List.take
 (Int.toNat
 (IntKind.wrap IntKind.i64
 (a_1 +
 List.getD
 (allR x.fst x.snd.fst
 (IntKind.wrap IntKind.i64
 (x.snd.fst - hang x.fst x.snd.fst)))
 (Int.toNat a_2) (Ty.dflt t3))))
 x.fst))) *
 (32 : Nat) ≤
 (140737488355328 : Nat) ∧
 List.length a_5 +
 List.length
 (List.drop (Int.toNat a_1)
 (List.take
 (Int.toNat
 (IntKind.wrap IntKind.i64
 (a_1 +
 List.getD
 (allR x.fst x.snd.fst
 (IntKind.wrap IntKind.i64
 (x.snd.fst - hang x.fst x.snd.fst)))
 (Int.toNat a_2) (Ty.dflt t3))))
 x.fst)) ≤
 maxLen ∧
 (List.length a +
 List.length
 [a_5 ++
 List.drop (Int.toNat a_1)
 (List.take
 (Int.toNat
 (IntKind.wrap IntKind.i64
 (a_1 +
 List.getD
 (allR x.fst x.snd.fst
 (IntKind.wrap IntKind.i64
 (x.snd.fst -
 hang x.fst x.snd.fst)))
 (Int.toNat a_2) (Ty.dflt t3))))
 x.fst)]) *
 (24 : Nat) ≤
 (140737488355328 : Nat) ∧
 List.length a +
 List.length
 [a_5 ++
 List.drop (Int.toNat a_1)
 (List.take
 (Int.toNat
 (IntKind.wrap IntKind.i64
 (a_1 +
 List.getD
 (allR x.fst x.snd.fst
 (IntKind.wrap IntKind.i64
 (x.snd.fst -
 hang x.fst x.snd.fst)))
 (Int.toNat a_2) (Ty.dflt t3))))
 x.fst)] ≤
 maxLen ∧
 ((IntKind.wrap IntKind.i64 (a_2 + (1 : Int)) =
 IntKind.wrap IntKind.i64 (a_2 + (1 : Int)) ∧
 IntKind.wrap IntKind.i64
 (a_1 +
 List.getD
 (allR x.fst x.snd.fst
 (IntKind.wrap IntKind.i64
 (x.snd.fst - hang x.fst x.snd.fst)))
 (Int.toNat a_2) (Ty.dflt t3)) =
 IntKind.wrap IntKind.i64
 (a_1 +
 List.getD
 (allR x.fst x.snd.fst
 (IntKind.wrap IntKind.i64
 (x.snd.fst - hang x.fst x.snd.fst)))
 (Int.toNat a_2) (Ty.dflt t3)) ∧
 True ∧
 x.fst = x.fst ∧
 hang x.fst x.snd.fst = hang x.fst x.snd.fst ∧
 allR x.fst x.snd.fst
 (IntKind.wrap IntKind.i64
 (x.snd.fst - hang x.fst x.snd.fst)) =
 allR x.fst x.snd.fst
 (IntKind.wrap IntKind.i64
 (x.snd.fst - hang x.fst x.snd.fst)) ∧
 (↑(List.length
 (allR x.fst x.snd.fst
 (IntKind.wrap IntKind.i64
 (x.snd.fst -
 hang x.fst x.snd.fst)))) :
 Int) =
 (↑(List.length
 (allR x.fst x.snd.fst
 (IntKind.wrap IntKind.i64
 (x.snd.fst -
 hang x.fst x.snd.fst)))) :
 Int)) ∧
 a ++
 [a_5 ++
 List.drop (Int.toNat a_1)
 (List.take
 (Int.toNat
 (IntKind.wrap IntKind.i64
 (a_1 +
 List.getD
 (allR x.fst x.snd.fst
 (IntKind.wrap IntKind.i64
 (x.snd.fst -
 hang x.fst x.snd.fst)))
 (Int.toNat a_2) (Ty.dflt t3))))
 x.fst)] =
 a ++
 [a_5 ++
 List.drop (Int.toNat a_1)
 (List.take
 (Int.toNat
 (IntKind.wrap IntKind.i64
 (a_1 +
 List.getD
 (allR x.fst x.snd.fst
 (IntKind.wrap IntKind.i64
 (x.snd.fst -
 hang x.fst x.snd.fst)))
 (Int.toNat a_2) (Ty.dflt t3))))
 x.fst)] ∧
 True) ∧
 Z
 (a ++
 [a_5 ++
 List.drop (Int.toNat a_1)
 (List.take
 (Int.toNat
 (IntKind.wrap IntKind.i64
 (a_1 +
 List.getD
 (allR x.fst x.snd.fst
 (IntKind.wrap IntKind.i64
 (x.snd.fst -
 hang x.fst x.snd.fst)))
 (Int.toNat a_2) (Ty.dflt t3))))
 x.fst)],
 IntKind.wrap IntKind.i64
 (a_1 +
 List.getD
 (allR x.fst x.snd.fst
 (IntKind.wrap IntKind.i64
 (x.snd.fst - hang x.fst x.snd.fst)))
 (Int.toNat a_2) (Ty.dflt t3)),
 IntKind.wrap IntKind.i64 (a_2 + (1 : Int)), ()) ∧
 μ
 (a ++
 [a_5 ++
 List.drop (Int.toNat a_1)
 (List.take
 (Int.toNat
 (IntKind.wrap IntKind.i64
 (a_1 +
 List.getD
 (allR x.fst x.snd.fst
 (IntKind.wrap IntKind.i64
 (x.snd.fst -
 hang x.fst x.snd.fst)))
 (Int.toNat a_2) (Ty.dflt t3))))
 x.fst)],
 IntKind.wrap IntKind.i64
 (a_1 +
 List.getD
 (allR x.fst x.snd.fst
 (IntKind.wrap IntKind.i64
 (x.snd.fst - hang x.fst x.snd.fst)))
 (Int.toNat a_2) (Ty.dflt t3)),
 IntKind.wrap IntKind.i64 (a_2 + (1 : Int)), ()) <
 μ (a, a_1, a_2, ()))) ∧
 (decide (a_2 > (0 : Int)) = false →
 ((0 : Int) ≤ a_1 ∧
 a_1 ≤
 IntKind.wrap IntKind.i64
 (a_1 +
 List.getD
 (allR x.fst x.snd.fst
 (IntKind.wrap IntKind.i64
 (x.snd.fst - hang x.fst x.snd.fst)))
 (Int.toNat a_2) (Ty.dflt t3)) ∧
 IntKind.wrap IntKind.i64
 (a_1 +
 List.getD
 (allR x.fst x.snd.fst
 (IntKind.wrap IntKind.i64
 (x.snd.fst - hang x.fst x.snd.fst)))
 (Int.toNat a_2) (Ty.dflt t3)) ≤
 (↑(List.length x.fst) : Int)) ∧
 (List.length a_5 +
 List.length
 (List.drop (Int.toNat a_1)
 (List.take
 (Int.toNat
 (IntKind.wrap IntKind.i64
 (a_1 +
 List.getD
 (allR x.fst x.snd.fst
 (IntKind.wrap IntKind.i64
 (x.snd.fst - hang x.fst x.snd.fst)))
 (Int.toNat a_2) (Ty.dflt t3))))
 x.fst))) *
 (32 : Nat) ≤
 (140737488355328 : Nat) ∧
 List.length a_5 +
 List.length
 (List.drop (Int.toNat a_1)
 (List.take
 (Int.toNat
 (IntKind.wrap IntKind.i64
 (a_1 +
 List.getD
 (allR x.fst x.snd.fst
 (IntKind.wrap IntKind.i64
 (x.snd.fst - hang x.fst x.snd.fst)))
 (Int.toNat a_2) (Ty.dflt t3))))
 x.fst)) ≤
 maxLen ∧
 (List.length a +
 List.length
 [a_5 ++
 List.drop (Int.toNat a_1)
 (List.take
 (Int.toNat
 (IntKind.wrap IntKind.i64
 (a_1 +
 List.getD
 (allR x.fst x.snd.fst
 (IntKind.wrap IntKind.i64
 (x.snd.fst - hang x.fst x.snd.fst)))
 (Int.toNat a_2) (Ty.dflt t3))))
 x.fst)]) *
 (24 : Nat) ≤
 (140737488355328 : Nat) ∧
 List.length a +
 List.length
 [a_5 ++
 List.drop (Int.toNat a_1)
 (List.take
 (Int.toNat
 (IntKind.wrap IntKind.i64
 (a_1 +
 List.getD
 (allR x.fst x.snd.fst
 (IntKind.wrap IntKind.i64
 (x.snd.fst - hang x.fst x.snd.fst)))
 (Int.toNat a_2) (Ty.dflt t3))))
 x.fst)] ≤
 maxLen ∧
 ((IntKind.wrap IntKind.i64 (a_2 + (1 : Int)) =
 IntKind.wrap IntKind.i64 (a_2 + (1 : Int)) ∧
 IntKind.wrap IntKind.i64
 (a_1 +
 List.getD
 (allR x.fst x.snd.fst
 (IntKind.wrap IntKind.i64
 (x.snd.fst - hang x.fst x.snd.fst)))
 (Int.toNat a_2) (Ty.dflt t3)) =
 IntKind.wrap IntKind.i64
 (a_1 +
 List.getD
 (allR x.fst x.snd.fst
 (IntKind.wrap IntKind.i64
 (x.snd.fst - hang x.fst x.snd.fst)))
 (Int.toNat a_2) (Ty.dflt t3)) ∧
 True ∧
 x.fst = x.fst ∧
 hang x.fst x.snd.fst = hang x.fst x.snd.fst ∧
 allR x.fst x.snd.fst
 (IntKind.wrap IntKind.i64
 (x.snd.fst - hang x.fst x.snd.fst)) =
 allR x.fst x.snd.fst
 (IntKind.wrap IntKind.i64
 (x.snd.fst - hang x.fst x.snd.fst)) ∧
 (↑(List.length
 (allR x.fst x.snd.fst
 (IntKind.wrap IntKind.i64
 (x.snd.fst -
 hang x.fst x.snd.fst)))) :
 Int) =
 (↑(List.length
 (allR x.fst x.snd.fst
 (IntKind.wrap IntKind.i64
 (x.snd.fst -
 hang x.fst x.snd.fst)))) :
 Int)) ∧
 a ++
 [a_5 ++
 List.drop (Int.toNat a_1)
 (List.take
 (Int.toNat
 (IntKind.wrap IntKind.i64
 (a_1 +
 List.getD
 (allR x.fst x.snd.fst
 (IntKind.wrap IntKind.i64
 (x.snd.fst -
 hang x.fst x.snd.fst)))
 (Int.toNat a_2) (Ty.dflt t3))))
 x.fst)] =
 a ++
 [a_5 ++
 List.drop (Int.toNat a_1)
 (List.take
 (Int.toNat
 (IntKind.wrap IntKind.i64
 (a_1 +
 List.getD
 (allR x.fst x.snd.fst
 (IntKind.wrap IntKind.i64
 (x.snd.fst -
 hang x.fst x.snd.fst)))
 (Int.toNat a_2) (Ty.dflt t3))))
 x.fst)] ∧
 True) ∧
 Z
 (a ++
 [a_5 ++
 List.drop (Int.toNat a_1)
 (List.take
 (Int.toNat
 (IntKind.wrap IntKind.i64
 (a_1 +
 List.getD
 (allR x.fst x.snd.fst
 (IntKind.wrap IntKind.i64
 (x.snd.fst -
 hang x.fst x.snd.fst)))
 (Int.toNat a_2) (Ty.dflt t3))))
 x.fst)],
 IntKind.wrap IntKind.i64
 (a_1 +
 List.getD
 (allR x.fst x.snd.fst
 (IntKind.wrap IntKind.i64
 (x.snd.fst - hang x.fst x.snd.fst)))
 (Int.toNat a_2) (Ty.dflt t3)),
 IntKind.wrap IntKind.i64 (a_2 + (1 : Int)), ()) ∧
 μ
 (a ++
 [a_5 ++
 List.drop (Int.toNat a_1)
 (List.take
 (Int.toNat
 (IntKind.wrap IntKind.i64
 (a_1 +
 List.getD
 (allR x.fst x.snd.fst
 (IntKind.wrap IntKind.i64
 (x.snd.fst -
 hang x.fst x.snd.fst)))
 (Int.toNat a_2) (Ty.dflt t3))))
 x.fst)],
 IntKind.wrap IntKind.i64
 (a_1 +
 List.getD
 (allR x.fst x.snd.fst
 (IntKind.wrap IntKind.i64
 (x.snd.fst - hang x.fst x.snd.fst)))
 (Int.toNat a_2) (Ty.dflt t3)),
 IntKind.wrap IntKind.i64 (a_2 + (1 : Int)), ()) <
 μ (a, a_1, a_2, ()))) ∧
 (decide
 (a_2 <
 (↑(List.length
 (allR x.fst x.snd.fst
 (IntKind.wrap IntKind.i64 (x.snd.fst - hang x.fst x.snd.fst)))) :
 Int)) =
 false →
 a = rowsW x.fst x.snd.fst)) ∧
 (decide (x.snd.fst > (0 : Int)) = false →
 (((0 : Int) = (0 : Int) ∧
 (0 : Int) = (0 : Int) ∧
 True ∧
 x.fst = x.fst ∧
 hang x.fst x.snd.fst = hang x.fst x.snd.fst ∧
 [(↑(List.length x.fst) : Int)] = [(↑(List.length x.fst) : Int)] ∧
 (↑(List.length [(↑(List.length x.fst) : Int)]) : Int) =
 (↑(List.length [(↑(List.length x.fst) : Int)]) : Int)) ∧
 True ∧ True) ∧
 ∃ (Z : List (List (Int × Int × Int × Int × Unit)) × Int × Int × Unit → Prop),
 ∃ (μ : List (List (Int × Int × Int × Int × Unit)) × Int × Int × Unit → Nat),
 Z ([], (0 : Int), (0 : Int), ()) ∧
 ∀ (a : List (List (Int × Int × Int × Int × Unit))) (a_1 a_2 : Int),
 Z (a, a_1, a_2, ()) →
 (decide (a_2 < (↑(List.length [(↑(List.length x.fst) : Int)]) : Int)) = true →
 ((0 : Int) ≤ a_2 ∧ a_2 < (↑(List.length [(↑(List.length x.fst) : Int)]) : Int)) ∧
 (((0 : Int) = (0 : Int) ∧
 True ∧
 x.fst = x.fst ∧
 hang x.fst x.snd.fst = hang x.fst x.snd.fst ∧
 True ∧
 a_1 = a_1 ∧
 a_2 = a_2 ∧
 List.getD [(↑(List.length x.fst) : Int)] (Int.toNat a_2) (Ty.dflt t3) =
 List.getD [(↑(List.length x.fst) : Int)] (Int.toNat a_2)
 (Ty.dflt t3) ∧
 [(↑(List.length x.fst) : Int)] = [(↑(List.length x.fst) : Int)] ∧
 (↑(List.length [(↑(List.length x.fst) : Int)]) : Int) =
 (↑(List.length [(↑(List.length x.fst) : Int)]) : Int) ∧
 a_2 = a_2) ∧
 True ∧ a = a ∧ True) ∧
 ∃ (Z_1 : List (Int × Int × Int × Int × Unit) × Int × Unit → Prop),
 ∃ (μ_1 : List (Int × Int × Int × Int × Unit) × Int × Unit → Nat),
 Z_1 ([], (0 : Int), ()) ∧
 ∀ (a_5 : List (Int × Int × Int × Int × Unit)) (a_6 : Int),
 Z_1 (a_5, a_6, ()) →
 (decide (a_2 > (0 : Int)) = true →
 (decide (a_6 < hang x.fst x.snd.fst) = true →
 ((0 : Int) ≤ a_1 ∧ a_1 < (↑(List.length x.fst) : Int)) ∧
 (List.length a_5 +
 List.length
 [((32 : Int), (5 : Int), (1 : Int),
 (List.getD x.fst (Int.toNat a_1)
 (Ty.dflt t38)).snd.snd.snd)]) *
 (32 : Nat) ≤
 (140737488355328 : Nat) ∧
 List.length a_5 +
 List.length
 [((32 : Int), (5 : Int), (1 : Int),
 (List.getD x.fst (Int.toNat a_1)
 (Ty.dflt t38)).snd.snd.snd)] ≤
 maxLen ∧
 ((IntKind.wrap IntKind.i64 (a_6 + (1 : Int)) =
 IntKind.wrap IntKind.i64 (a_6 + (1 : Int)) ∧
 True ∧
 x.fst = x.fst ∧
 hang x.fst x.snd.fst = hang x.fst x.snd.fst ∧
 True ∧
 a_1 = a_1 ∧
 a_2 = a_2 ∧
 List.getD [(↑(List.length x.fst) : Int)]
 (Int.toNat a_2) (Ty.dflt t3) =
 List.getD [(↑(List.length x.fst) : Int)]
 (Int.toNat a_2) (Ty.dflt t3) ∧
 [(↑(List.length x.fst) : Int)] =
 [(↑(List.length x.fst) : Int)] ∧
 (↑(List.length
 [(↑(List.length x.fst) : Int)]) :
 Int) =
 (↑(List.length
 [(↑(List.length x.fst) : Int)]) :
 Int) ∧
 a_2 = a_2) ∧
 a_5 ++
 [((32 : Int), (5 : Int), (1 : Int),
 (List.getD x.fst (Int.toNat a_1)
 (Ty.dflt t38)).snd.snd.snd)] =
 a_5 ++
 [((32 : Int), (5 : Int), (1 : Int),
 (List.getD x.fst (Int.toNat a_1)
 (Ty.dflt t38)).snd.snd.snd)] ∧
 a = a ∧ True) ∧
 Z_1
 (a_5 ++
 [((32 : Int), (5 : Int), (1 : Int),
 (List.getD x.fst (Int.toNat a_1)
 (Ty.dflt t38)).snd.snd.snd)],
 IntKind.wrap IntKind.i64 (a_6 + (1 : Int)), ()) ∧
 μ_1
 (a_5 ++
 [((32 : Int), (5 : Int), (1 : Int),
 (List.getD x.fst (Int.toNat a_1)
 (Ty.dflt t38)).snd.snd.snd)],
 IntKind.wrap IntKind.i64 (a_6 + (1 : Int)), ()) <
 μ_1 (a_5, a_6, ())) ∧
 (decide (a_6 < hang x.fst x.snd.fst) = false →
 ((0 : Int) ≤ a_1 ∧
 a_1 ≤
 IntKind.wrap IntKind.i64
 (a_1 +
 List.getD [(↑(List.length x.fst) : Int)] (Int.toNat a_2)
 (Ty.dflt t3)) ∧
 IntKind.wrap IntKind.i64
 (a_1 +
 List.getD [(↑(List.length x.fst) : Int)] (Int.toNat a_2)
 (Ty.dflt t3)) ≤
 (↑(List.length x.fst) : Int)) ∧
 (List.length a_5 +
 List.length
 (List.drop (Int.toNat a_1)
 (List.take
 (Int.toNat
 (IntKind.wrap IntKind.i64
 (a_1 +
 List.getD [(↑(List.length x.fst) : Int)]
 (Int.toNat a_2) (Ty.dflt t3))))
 x.fst))) *
 (32 : Nat) ≤
 (140737488355328 : Nat) ∧
 List.length a_5 +
 List.length
 (List.drop (Int.toNat a_1)
 (List.take
 (Int.toNat
 (IntKind.wrap IntKind.i64
 (a_1 +
 List.getD [(↑(List.length x.fst) : Int)]
 (Int.toNat a_2) (Ty.dflt t3))))
 x.fst)) ≤
 maxLen ∧
 (List.length a +
 List.length
 [a_5 ++
 List.drop (Int.toNat a_1)
 (List.take
 (Int.toNat
 (IntKind.wrap IntKind.i64
 (a_1 +
 List.getD [(↑(List.length x.fst) : Int)]
 (Int.toNat a_2) (Ty.dflt t3))))
 x.fst)]) *
 (24 : Nat) ≤
 (140737488355328 : Nat) ∧
 List.length a +
 List.length
 [a_5 ++
 List.drop (Int.toNat a_1)
 (List.take
 (Int.toNat
 (IntKind.wrap IntKind.i64
 (a_1 +
 List.getD [(↑(List.length x.fst) : Int)]
 (Int.toNat a_2) (Ty.dflt t3))))
 x.fst)] ≤
 maxLen ∧
 ((IntKind.wrap IntKind.i64 (a_2 + (1 : Int)) =
 IntKind.wrap IntKind.i64 (a_2 + (1 : Int)) ∧
 IntKind.wrap IntKind.i64
 (a_1 +
 List.getD [(↑(List.length x.fst) : Int)]
 (Int.toNat a_2) (Ty.dflt t3)) =
 IntKind.wrap IntKind.i64
 (a_1 +
 List.getD [(↑(List.length x.fst) : Int)]
 (Int.toNat a_2) (Ty.dflt t3)) ∧
 True ∧
 x.fst = x.fst ∧
 hang x.fst x.snd.fst = hang x.fst x.snd.fst ∧
 [(↑(List.length x.fst) : Int)] =
 [(↑(List.length x.fst) : Int)] ∧
 (↑(List.length
 [(↑(List.length x.fst) : Int)]) :
 Int) =
 (↑(List.length
 [(↑(List.length x.fst) : Int)]) :
 Int)) ∧
 a ++
 [a_5 ++
 List.drop (Int.toNat a_1)
 (List.take
 (Int.toNat
 (IntKind.wrap IntKind.i64
 (a_1 +
 List.getD
 [(↑(List.length x.fst) : Int)]
 (Int.toNat a_2) (Ty.dflt t3))))
 x.fst)] =
 a ++
 [a_5 ++
 List.drop (Int.toNat a_1)
 (List.take
 (Int.toNat
 (IntKind.wrap IntKind.i64
 (a_1 +
 List.getD
 [(↑(List.length x.fst) : Int)]
 (Int.toNat a_2) (Ty.dflt t3))))
 x.fst)] ∧
 True) ∧
 Z
 (a ++
 [a_5 ++
 List.drop (Int.toNat a_1)
 (List.take
 (Int.toNat
 (IntKind.wrap IntKind.i64
 (a_1 +
 List.getD
 [(↑(List.length x.fst) : Int)]
 (Int.toNat a_2) (Ty.dflt t3))))
 x.fst)],
 IntKind.wrap IntKind.i64
 (a_1 +
 List.getD [(↑(List.length x.fst) : Int)]
 (Int.toNat a_2) (Ty.dflt t3)),
 IntKind.wrap IntKind.i64 (a_2 + (1 : Int)), ()) ∧
 μ
 (a ++
 [a_5 ++
 List.drop (Int.toNat a_1)
 (List.take
 (Int.toNat
 (IntKind.wrap IntKind.i64
 (a_1 +
 List.getD
 [(↑(List.length x.fst) : Int)]
 (Int.toNat a_2) (Ty.dflt t3))))
 x.fst)],
 IntKind.wrap IntKind.i64
 (a_1 +
 List.getD [(↑(List.length x.fst) : Int)]
 (Int.toNat a_2) (Ty.dflt t3)),
 IntKind.wrap IntKind.i64 (a_2 + (1 : Int)), ()) <
 μ (a, a_1, a_2, ()))) ∧
 (decide (a_2 > (0 : Int)) = false →
 ((0 : Int) ≤ a_1 ∧
 a_1 ≤
 IntKind.wrap IntKind.i64
 (a_1 +
 List.getD [(↑(List.length x.fst) : Int)] (Int.toNat a_2)
 (Ty.dflt t3)) ∧
 IntKind.wrap IntKind.i64
 (a_1 +
 List.getD [(↑(List.length x.fst) : Int)] (Int.toNat a_2)
 (Ty.dflt t3)) ≤
 (↑(List.length x.fst) : Int)) ∧
 (List.length a_5 +
 List.length
 (List.drop (Int.toNat a_1)
 (List.take
 (Int.toNat
 (IntKind.wrap IntKind.i64
 (a_1 +
 List.getD [(↑(List.length x.fst) : Int)]
 (Int.toNat a_2) (Ty.dflt t3))))
 x.fst))) *
 (32 : Nat) ≤
 (140737488355328 : Nat) ∧
 List.length a_5 +
 List.length
 (List.drop (Int.toNat a_1)
 (List.take
 (Int.toNat
 (IntKind.wrap IntKind.i64
 (a_1 +
 List.getD [(↑(List.length x.fst) : Int)]
 (Int.toNat a_2) (Ty.dflt t3))))
 x.fst)) ≤
 maxLen ∧
 (List.length a +
 List.length
 [a_5 ++
 List.drop (Int.toNat a_1)
 (List.take
 (Int.toNat
 (IntKind.wrap IntKind.i64
 (a_1 +
 List.getD [(↑(List.length x.fst) : Int)]
 (Int.toNat a_2) (Ty.dflt t3))))
 x.fst)]) *
 (24 : Nat) ≤
 (140737488355328 : Nat) ∧
 List.length a +
 List.length
 [a_5 ++
 List.drop (Int.toNat a_1)
 (List.take
 (Int.toNat
 (IntKind.wrap IntKind.i64
 (a_1 +
 List.getD [(↑(List.length x.fst) : Int)]
 (Int.toNat a_2) (Ty.dflt t3))))
 x.fst)] ≤
 maxLen ∧
 ((IntKind.wrap IntKind.i64 (a_2 + (1 : Int)) =
 IntKind.wrap IntKind.i64 (a_2 + (1 : Int)) ∧
 IntKind.wrap IntKind.i64
 (a_1 +
 List.getD [(↑(List.length x.fst) : Int)]
 (Int.toNat a_2) (Ty.dflt t3)) =
 IntKind.wrap IntKind.i64
 (a_1 +
 List.getD [(↑(List.length x.fst) : Int)]
 (Int.toNat a_2) (Ty.dflt t3)) ∧
 True ∧
 x.fst = x.fst ∧
 hang x.fst x.snd.fst = hang x.fst x.snd.fst ∧
 [(↑(List.length x.fst) : Int)] =
 [(↑(List.length x.fst) : Int)] ∧
 (↑(List.length [(↑(List.length x.fst) : Int)]) :
 Int) =
 (↑(List.length [(↑(List.length x.fst) : Int)]) :
 Int)) ∧
 a ++
 [a_5 ++
 List.drop (Int.toNat a_1)
 (List.take
 (Int.toNat
 (IntKind.wrap IntKind.i64
 (a_1 +
 List.getD [(↑(List.length x.fst) : Int)]
 (Int.toNat a_2) (Ty.dflt t3))))
 x.fst)] =
 a ++
 [a_5 ++
 List.drop (Int.toNat a_1)
 (List.take
 (Int.toNat
 (IntKind.wrap IntKind.i64
 (a_1 +
 List.getD [(↑(List.length x.fst) : Int)]
 (Int.toNat a_2) (Ty.dflt t3))))
 x.fst)] ∧
 True) ∧
 Z
 (a ++
 [a_5 ++
 List.drop (Int.toNat a_1)
 (List.take
 (Int.toNat
 (IntKind.wrap IntKind.i64
 (a_1 +
 List.getD [(↑(List.length x.fst) : Int)]
 (Int.toNat a_2) (Ty.dflt t3))))
 x.fst)],
 IntKind.wrap IntKind.i64
 (a_1 +
 List.getD [(↑(List.length x.fst) : Int)]
 (Int.toNat a_2) (Ty.dflt t3)),
 IntKind.wrap IntKind.i64 (a_2 + (1 : Int)), ()) ∧
 μ
 (a ++
 [a_5 ++
 List.drop (Int.toNat a_1)
 (List.take
 (Int.toNat
 (IntKind.wrap IntKind.i64
 (a_1 +
 List.getD [(↑(List.length x.fst) : Int)]
 (Int.toNat a_2) (Ty.dflt t3))))
 x.fst)],
 IntKind.wrap IntKind.i64
 (a_1 +
 List.getD [(↑(List.length x.fst) : Int)]
 (Int.toNat a_2) (Ty.dflt t3)),
 IntKind.wrap IntKind.i64 (a_2 + (1 : Int)), ()) <
 μ (a, a_1, a_2, ()))) ∧
 (decide (a_2 < (↑(List.length [(↑(List.length x.fst) : Int)]) : Int)) = false →
 a = rowsW x.fst x.snd.fst))
theorem vcEq15 : fnVC E15 Try.f15 (bodyOf Try.f15) cRRows = vc15 := by kernel_rfl
/- fn 16 -/
def hs16 : List (Nat × Nat × Hint) := [(0, 2, ⟨[.slot 8 t3], [0, 1, 7], [], []⟩)]
def nm16 : List Nat := []
noncomputable def E16 : Env := env tab [] [] noGl hs16 nm16
def vc16 : Prop :=
 ∀ (x : List (Int × Int × Int × Int × Unit) × List (Int × Int × Int × Int × Unit) × Unit),
 List.length x.fst ≤ maxLen ∧ List.length x.snd.fst ≤ maxLen →
 ((0 : Int) = (0 : Int) ∧
 x.fst = x.fst ∧ x.snd.fst = x.snd.fst ∧ (↑(List.length x.fst) : Int) = (↑(List.length x.fst) : Int)) ∧
 ∃ (Z : Int × Unit → Prop),
 ∃ (μ : Int × Unit → Nat),
 Z ((0 : Int), ()) ∧
 ∀ (a : Int),
 Z (a, ()) →
 (decide (a < (↑(List.length x.fst) : Int)) = true →
 (decide (a ≥ (↑(List.length x.snd.fst) : Int)) = true → false = decide (x.fst = x.snd.fst)) ∧
 (decide (a ≥ (↑(List.length x.snd.fst) : Int)) = false →
 ((0 : Int) ≤ a ∧ a < (↑(List.length x.fst) : Int)) ∧
 ((0 : Int) ≤ a ∧ a < (↑(List.length x.snd.fst) : Int)) ∧
 ((!Ty.beq t38 (List.getD x.fst (Int.toNat a) (Ty.dflt t38))
 (List.getD x.snd.fst (Int.toNat a) (Ty.dflt t38))) =
 true →
 false = decide (x.fst = x.snd.fst)) ∧
 ((!Ty.beq t38 (List.getD x.fst (Int.toNat a) (Ty.dflt t38))
 (List.getD x.snd.fst (Int.toNat a) (Ty.dflt t38))) =
 false →
 (IntKind.wrap IntKind.i64 (a + (1 : Int)) = IntKind.wrap IntKind.i64 (a + (1 : Int)) ∧
 x.fst = x.fst ∧
 x.snd.fst = x.snd.fst ∧
 (↑(List.length x.fst) : Int) = (↑(List.length x.fst) : Int)) ∧
 Z (IntKind.wrap IntKind.i64 (a + (1 : Int)), ()) ∧
 μ (IntKind.wrap IntKind.i64 (a + (1 : Int)), ()) < μ (a, ())))) ∧
 (decide (a < (↑(List.length x.fst) : Int)) = false →
 ((↑(List.length x.fst) : Int) == (↑(List.length x.snd.fst) : Int)) = decide (x.fst = x.snd.fst))
theorem vcEq16 : fnVC E16 Try.f16 (bodyOf Try.f16) cCells = vc16 := by kernel_rfl
/- fn 17 -/
def hs17 : List (Nat × Nat × Hint) := [(0, 3, ⟨[.slot 3 t3, .slot 8 t3], [6, 7], [], []⟩)]
def nm17 : List Nat := []
noncomputable def E17 : Env := env tab [] [] noGl hs17 nm17
def vc17 : Prop :=
 ∀ (x : List (Int × Int × Int × Int × Unit) × Unit),
 okW x.fst →
 ((0 : Int) = (0 : Int) ∧
 (0 : Int) = (0 : Int) ∧ x.fst = x.fst ∧ (↑(List.length x.fst) : Int) = (↑(List.length x.fst) : Int)) ∧
 ∃ (Z : Int × Int × Unit → Prop),
 ∃ (μ : Int × Int × Unit → Nat),
 Z ((0 : Int), (0 : Int), ()) ∧
 ∀ (a a_1 : Int),
 Z (a, a_1, ()) →
 (decide (a_1 < (↑(List.length x.fst) : Int)) = true →
 ((0 : Int) ≤ a_1 ∧ a_1 < (↑(List.length x.fst) : Int)) ∧
 (IntKind.wrap IntKind.i64 (a_1 + (1 : Int)) = IntKind.wrap IntKind.i64 (a_1 + (1 : Int)) ∧
 IntKind.wrap IntKind.i64 (a + (List.getD x.fst (Int.toNat a_1) (Ty.dflt t38)).snd.snd.fst) =
 IntKind.wrap IntKind.i64
 (a + (List.getD x.fst (Int.toNat a_1) (Ty.dflt t38)).snd.snd.fst) ∧
 x.fst = x.fst ∧ (↑(List.length x.fst) : Int) = (↑(List.length x.fst) : Int)) ∧
 Z
 (IntKind.wrap IntKind.i64 (a + (List.getD x.fst (Int.toNat a_1) (Ty.dflt t38)).snd.snd.fst),
 IntKind.wrap IntKind.i64 (a_1 + (1 : Int)), ()) ∧
 μ
 (IntKind.wrap IntKind.i64
 (a + (List.getD x.fst (Int.toNat a_1) (Ty.dflt t38)).snd.snd.fst),
 IntKind.wrap IntKind.i64 (a_1 + (1 : Int)), ()) <
 μ (a, a_1, ())) ∧
 (decide (a_1 < (↑(List.length x.fst) : Int)) = false → a = width x.fst)
theorem vcEq17 : fnVC E17 Try.f17 (bodyOf Try.f17) cWidth = vc17 := by kernel_rfl
/- fn 18 -/
def hs18 : List (Nat × Nat × Hint) := []
def nm18 : List Nat := []
noncomputable def E18 : Env := env tab [] [] noGl hs18 nm18
def vc18 : Prop :=
 ∀ (x : Int × Unit),
 True →
 (decide (x.fst ≥ (0 : Int)) = true → decide (x.fst ≤ (200 : Int)) = wRight x.fst) ∧
 (decide (x.fst ≥ (0 : Int)) = false → false = wRight x.fst)
theorem vcEq18 : fnVC E18 Try.f18 (bodyOf Try.f18) cWRight = vc18 := by kernel_rfl
/- fn 19 -/
def hs19 : List (Nat × Nat × Hint) := []
def nm19 : List Nat := []
noncomputable def E19 : Env := env tab [(12, cHang), (25, cAll)] [] noGl hs19 nm19
def vc19 : Prop :=
 ∀ (x : List (Int × Int × Int × Int × Unit) × Int × Unit),
 okL x.fst ∧ (0 : Int) ≤ x.snd.fst ∧ x.snd.fst ≤ (200 : Int) →
 ((x.snd.fst == (0 : Int)) = true → [(↑(List.length x.fst) : Int)] = wtakes x.fst x.snd.fst) ∧
 ((x.snd.fst == (0 : Int)) = false →
 okL x.fst ∧
 okL x.fst ∧
 allR x.fst x.snd.fst (IntKind.wrap IntKind.i64 (x.snd.fst - hang x.fst x.snd.fst)) = wtakes x.fst x.snd.fst)
theorem vcEq19 : fnVC E19 Try.f19 (bodyOf Try.f19) cWTakes = vc19 := by kernel_rfl
/- fn 20 -/
def hs20 : List (Nat × Nat × Hint) := [(0, 3, ⟨[.rowS 5 900000005 t38 38, .slot 7 t3], [1, 6], [], []⟩)]
def nm20 : List Nat := []
noncomputable def E20 : Env := env tab [] [] noGl hs20 nm20
def vc20 : Prop :=
 ∀ (x : Int × List (Int × Int × Int × Int × Unit) × Unit),
 (0 : Int) ≤ x.fst ∧ x.fst ≤ (8 : Int) ∧ List.length x.snd.fst ≤ (200 : Nat) ∧ ((0 : Int) < x.fst → x.snd.fst ≠ []) →
 (((0 : Int) = (0 : Int) ∧ True ∧ x.snd.fst = x.snd.fst ∧ x.fst = x.fst) ∧ True ∧ True) ∧
 ∃ (Z : List (Int × Int × Int × Int × Unit) × Int × Unit → Prop),
 ∃ (μ : List (Int × Int × Int × Int × Unit) × Int × Unit → Nat),
 Z ([], (0 : Int), ()) ∧
 ∀ (a : List (Int × Int × Int × Int × Unit)) (a_1 : Int),
 Z (a, a_1, ()) →
 (decide (a_1 < x.fst) = true →
 ((0 : Int) ≤ (0 : Int) ∧ (0 : Int) < (↑(List.length x.snd.fst) : Int)) ∧
 (List.length a +
 List.length
 [((32 : Int), (5 : Int), (1 : Int),
 (List.getD x.snd.fst (Int.toNat (0 : Int)) (Ty.dflt t38)).snd.snd.snd)]) *
 (32 : Nat) ≤
 (140737488355328 : Nat) ∧
 List.length a +
 List.length
 [((32 : Int), (5 : Int), (1 : Int),
 (List.getD x.snd.fst (Int.toNat (0 : Int)) (Ty.dflt t38)).snd.snd.snd)] ≤
 maxLen ∧
 ((IntKind.wrap IntKind.i64 (a_1 + (1 : Int)) = IntKind.wrap IntKind.i64 (a_1 + (1 : Int)) ∧
 True ∧ x.snd.fst = x.snd.fst ∧ x.fst = x.fst) ∧
 a ++
 [((32 : Int), (5 : Int), (1 : Int),
 (List.getD x.snd.fst (Int.toNat (0 : Int)) (Ty.dflt t38)).snd.snd.snd)] =
 a ++
 [((32 : Int), (5 : Int), (1 : Int),
 (List.getD x.snd.fst (Int.toNat (0 : Int)) (Ty.dflt t38)).snd.snd.snd)] ∧
 True) ∧
 Z
 (a ++
 [((32 : Int), (5 : Int), (1 : Int),
 (List.getD x.snd.fst (Int.toNat (0 : Int)) (Ty.dflt t38)).snd.snd.snd)],
 IntKind.wrap IntKind.i64 (a_1 + (1 : Int)), ()) ∧
 μ
 (a ++
 [((32 : Int), (5 : Int), (1 : Int),
 (List.getD x.snd.fst (Int.toNat (0 : Int)) (Ty.dflt t38)).snd.snd.snd)],
 IntKind.wrap IntKind.i64 (a_1 + (1 : Int)), ()) <
 μ (a, a_1, ())) ∧
 (decide (a_1 < x.fst) = false →
 (List.length a + List.length x.snd.fst) * (32 : Nat) ≤ (140737488355328 : Nat) ∧
 List.length a + List.length x.snd.fst ≤ maxLen ∧ a ++ x.snd.fst = behind x.fst x.snd.fst)
theorem vcEq20 : fnVC E20 Try.f20 (bodyOf Try.f20) cBehind = vc20 := by kernel_rfl
/- fn 21 -/
def hs21 : List (Nat × Nat × Hint) := [(0, 3, ⟨[.slot 3 t3, .slot 8 t3], [6, 7], [], []⟩)]
def nm21 : List Nat := []
noncomputable def E21 : Env := env tab [] [] noGl hs21 nm21
def vc21 : Prop :=
 ∀ (x : List (Int × Int × Int × Int × Unit) × Unit),
 okW x.fst →
 ((0 : Int) = (0 : Int) ∧
 (0 : Int) = (0 : Int) ∧ x.fst = x.fst ∧ (↑(List.length x.fst) : Int) = (↑(List.length x.fst) : Int)) ∧
 ∃ (Z : Int × Int × Unit → Prop),
 ∃ (μ : Int × Int × Unit → Nat),
 Z ((0 : Int), (0 : Int), ()) ∧
 ∀ (a a_1 : Int),
 Z (a, a_1, ()) →
 (decide (a_1 < (↑(List.length x.fst) : Int)) = true →
 ((0 : Int) ≤ a_1 ∧ a_1 < (↑(List.length x.fst) : Int)) ∧
 (IntKind.wrap IntKind.i64 (a_1 + (1 : Int)) = IntKind.wrap IntKind.i64 (a_1 + (1 : Int)) ∧
 IntKind.wrap IntKind.i64 (a + (List.getD x.fst (Int.toNat a_1) (Ty.dflt t38)).snd.snd.fst) =
 IntKind.wrap IntKind.i64
 (a + (List.getD x.fst (Int.toNat a_1) (Ty.dflt t38)).snd.snd.fst) ∧
 x.fst = x.fst ∧ (↑(List.length x.fst) : Int) = (↑(List.length x.fst) : Int)) ∧
 Z
 (IntKind.wrap IntKind.i64 (a + (List.getD x.fst (Int.toNat a_1) (Ty.dflt t38)).snd.snd.fst),
 IntKind.wrap IntKind.i64 (a_1 + (1 : Int)), ()) ∧
 μ
 (IntKind.wrap IntKind.i64
 (a + (List.getD x.fst (Int.toNat a_1) (Ty.dflt t38)).snd.snd.fst),
 IntKind.wrap IntKind.i64 (a_1 + (1 : Int)), ()) <
 μ (a, a_1, ())) ∧
 (decide (a_1 < (↑(List.length x.fst) : Int)) = false → a = width x.fst)
theorem vcEq21 : fnVC E21 Try.f21 (bodyOf Try.f21) cWidth = vc21 := by kernel_rfl
/- fn 22 -/
def hs22 : List (Nat × Nat × Hint) := [(0, 3, ⟨[.slot 3 t3, .slot 8 t3], [6, 7], [], []⟩)]
def nm22 : List Nat := []
noncomputable def E22 : Env := env tab [(26, cBlank)] [] noGl hs22 nm22
def vc22 : Prop :=
 ∀ (x : List (Int × Int × Int × Int × Unit) × Unit),
 okL x.fst →
 ((0 : Int) = (0 : Int) ∧
 (0 : Int) = (0 : Int) ∧ x.fst = x.fst ∧ (↑(List.length x.fst) : Int) = (↑(List.length x.fst) : Int)) ∧
 ∃ (Z : Int × Int × Unit → Prop),
 ∃ (μ : Int × Int × Unit → Nat),
 Z ((0 : Int), (0 : Int), ()) ∧
 ∀ (a a_1 : Int),
 Z (a, a_1, ()) →
 (decide (a_1 < (↑(List.length x.fst) : Int)) = true →
 ((0 : Int) ≤ a_1 ∧ a_1 < (↑(List.length x.fst) : Int)) ∧
 True ∧
 ((!blank (List.getD x.fst (Int.toNat a_1) (Ty.dflt t38))) = true →
 (if (8 : Int) < a then (8 : Int) else a) = indent x.fst) ∧
 ((!blank (List.getD x.fst (Int.toNat a_1) (Ty.dflt t38))) = false →
 (decide (a ≥ (8 : Int)) = true → (if (8 : Int) < a then (8 : Int) else a) = indent x.fst) ∧
 (decide (a ≥ (8 : Int)) = false →
 (IntKind.wrap IntKind.i64 (a_1 + (1 : Int)) =
 IntKind.wrap IntKind.i64 (a_1 + (1 : Int)) ∧
 IntKind.wrap IntKind.i64
 (a + (List.getD x.fst (Int.toNat a_1) (Ty.dflt t38)).snd.snd.fst) =
 IntKind.wrap IntKind.i64
 (a + (List.getD x.fst (Int.toNat a_1) (Ty.dflt t38)).snd.snd.fst) ∧
 x.fst = x.fst ∧ (↑(List.length x.fst) : Int) = (↑(List.length x.fst) : Int)) ∧
 Z
 (IntKind.wrap IntKind.i64
 (a + (List.getD x.fst (Int.toNat a_1) (Ty.dflt t38)).snd.snd.fst),
 IntKind.wrap IntKind.i64 (a_1 + (1 : Int)), ()) ∧
 μ
 (IntKind.wrap IntKind.i64
 (a + (List.getD x.fst (Int.toNat a_1) (Ty.dflt t38)).snd.snd.fst),
 IntKind.wrap IntKind.i64 (a_1 + (1 : Int)), ()) <
 μ (a, a_1, ())))) ∧
 (decide (a_1 < (↑(List.length x.fst) : Int)) = false →
 (if (8 : Int) < a then (8 : Int) else a) = indent x.fst)
theorem vcEq22 : fnVC E22 Try.f22 (bodyOf Try.f22) cIndent = vc22 := by kernel_rfl
/- fn 23 -/
def hs23 : List (Nat × Nat × Hint) := [(0, 2, ⟨[.slot 3 t3], [0], [], []⟩)]
def nm23 : List Nat := []
noncomputable def E23 : Env := env tab [(27, cBlank), (17, cWidth)] [] noGl hs23 nm23
def vc23 : Prop :=
 ∀ (x : List (Int × Int × Int × Int × Unit) × Unit),
 okL x.fst →
 ((0 : Int) = (0 : Int) ∧ x.fst = x.fst) ∧
 ∃ (Z : Int × Unit → Prop),
 ∃ (μ : Int × Unit → Nat),
 Z ((0 : Int), ()) ∧
 ∀ (a : Int),
 Z (a, ()) →
 (decide (a < (↑(List.length x.fst) : Int)) = true →
 ((0 : Int) ≤ a ∧ a < (↑(List.length x.fst) : Int)) ∧
 True ∧
 (blank (List.getD x.fst (Int.toNat a) (Ty.dflt t38)) = true →
 (IntKind.wrap IntKind.i64 (a + (1 : Int)) = IntKind.wrap IntKind.i64 (a + (1 : Int)) ∧
 x.fst = x.fst) ∧
 Z (IntKind.wrap IntKind.i64 (a + (1 : Int)), ()) ∧
 μ (IntKind.wrap IntKind.i64 (a + (1 : Int)), ()) < μ (a, ())) ∧
 (blank (List.getD x.fst (Int.toNat a) (Ty.dflt t38)) = false →
 ((0 : Int) ≤ a ∧ a ≤ (↑(List.length x.fst) : Int)) ∧
 okW (List.take (Int.toNat a) x.fst) ∧
 (decide (width (List.take (Int.toNat a) x.fst) > (8 : Int)) = true →
 (8 : Int) = indent x.fst) ∧
 (decide (width (List.take (Int.toNat a) x.fst) > (8 : Int)) = false →
 width (List.take (Int.toNat a) x.fst) = indent x.fst))) ∧
 (decide (a < (↑(List.length x.fst) : Int)) = false →
 ((0 : Int) ≤ a ∧ a ≤ (↑(List.length x.fst) : Int)) ∧
 okW (List.take (Int.toNat a) x.fst) ∧
 (decide (width (List.take (Int.toNat a) x.fst) > (8 : Int)) = true → (8 : Int) = indent x.fst) ∧
 (decide (width (List.take (Int.toNat a) x.fst) > (8 : Int)) = false →
 width (List.take (Int.toNat a) x.fst) = indent x.fst))
theorem vcEq23 : fnVC E23 Try.f23 (bodyOf Try.f23) cIndent = vc23 := by kernel_rfl
/- fn 24 -/
def hs24 : List (Nat × Nat × Hint) := [(0, 3, ⟨[.rowS 5 900000005 t3 3, .slot 6 t3], [0, 3], [3], []⟩)]
def nm24 : List Nat := [1000000012]
noncomputable def E24 : Env := env tab [(28, cStart), (29, cTakes)] [] noGl hs24 nm24
def vc24 : Prop :=
 ∀ (x : List (Int × Int × Int × Int × Unit) × (Int × Int × Unit) × Unit),
 okL x.fst →
 ((0 : Int) ≤ (0 : Int) ∧ (0 : Int) < (↑(2 : Nat) : Int)) ∧
 okL x.fst ∧
 ((0 : Int) ≤ (0 : Int) ∧ (0 : Int) < (↑(List.length [(↑(start x.fst x.snd.fst.fst) : Int)]) : Int)) ∧
 ((List.getD [(↑(start x.fst x.snd.fst.fst) : Int)] (Int.toNat (0 : Int)) (Ty.dflt t3) =
 List.getD [(↑(start x.fst x.snd.fst.fst) : Int)] (Int.toNat (0 : Int)) (Ty.dflt t3) ∧
 True ∧ x.fst = x.fst ∧ True) ∧
 (x.snd.fst.fst = x.snd.fst.fst ∧ x.snd.fst.snd.fst = x.snd.fst.snd.fst) ∧
 [(↑(start x.fst x.snd.fst.fst) : Int)] = [(↑(start x.fst x.snd.fst.fst) : Int)] ∧ True) ∧
 ∃ (Z : List Int × Int × Unit → Prop),
 ∃ (μ : List Int × Int × Unit → Nat),
 Z
 ([(↑(start x.fst x.snd.fst.fst) : Int)],
 List.getD [(↑(start x.fst x.snd.fst.fst) : Int)] (Int.toNat (0 : Int)) (Ty.dflt t3), ()) ∧
 ∀ (a : List Int) (a_1 : Int),
 Z (a, a_1, ()) →
 (decide (a_1 < (↑(List.length x.fst) : Int)) = true →
 ((0 : Int) ≤ a_1 ∧ a_1 ≤ (↑(List.length x.fst) : Int)) ∧
 ((0 : Int) ≤ (1 : Int) ∧ (1 : Int) < (↑(2 : Nat) : Int)) ∧
 okL (List.drop (Int.toNat a_1) x.fst) ∧
 (List.length a +
 List.length
 [(↑(takes (List.drop (Int.toNat a_1) x.fst) x.snd.fst.snd.fst) : Int)]) *
 (8 : Nat) ≤
 (140737488355328 : Nat) ∧
 List.length a +
 List.length
 [(↑(takes (List.drop (Int.toNat a_1) x.fst) x.snd.fst.snd.fst) : Int)] ≤
 maxLen ∧
 ((IntKind.wrap IntKind.i64
 (a_1 +
 (↑(takes (List.drop (Int.toNat a_1) x.fst) x.snd.fst.snd.fst) : Int)) =
 IntKind.wrap IntKind.i64
 (a_1 +
 (↑(takes (List.drop (Int.toNat a_1) x.fst) x.snd.fst.snd.fst) : Int)) ∧
 True ∧ x.fst = x.fst ∧ True) ∧
 (x.snd.fst.fst = x.snd.fst.fst ∧ x.snd.fst.snd.fst = x.snd.fst.snd.fst) ∧
 a ++ [(↑(takes (List.drop (Int.toNat a_1) x.fst) x.snd.fst.snd.fst) : Int)] =
 a ++
 [(↑(takes (List.drop (Int.toNat a_1) x.fst) x.snd.fst.snd.fst) : Int)] ∧
 True) ∧
 Z
 (a ++ [(↑(takes (List.drop (Int.toNat a_1) x.fst) x.snd.fst.snd.fst) : Int)],
 IntKind.wrap IntKind.i64
 (a_1 +
 (↑(takes (List.drop (Int.toNat a_1) x.fst) x.snd.fst.snd.fst) : Int)),
 ()) ∧
 μ
 (a ++
 [(↑(takes (List.drop (Int.toNat a_1) x.fst) x.snd.fst.snd.fst) : Int)],
 IntKind.wrap IntKind.i64
 (a_1 +
 (↑(takes (List.drop (Int.toNat a_1) x.fst) x.snd.fst.snd.fst) : Int)),
 ()) <
 μ (a, a_1, ())) ∧
 (decide (a_1 < (↑(List.length x.fst) : Int)) = false →
 a = allR x.fst x.snd.fst.fst x.snd.fst.snd.fst)
theorem vcEq24 : fnVC E24 Try.f24 (bodyOf Try.f24) cRAll = vc24 := by kernel_rfl
/- fn 26 -/
def hs26 : List (Nat × Nat × Hint) := []
def nm26 : List Nat := []
noncomputable def E26 : Env := env tab [] [] noGl hs26 nm26
def vc26 : Prop :=
 ∀ (x : (Int × Int × Int × Int × Unit) × Unit),
 True →
 ((x.fst.fst == (32 : Int)) = true → true = blank x.fst) ∧
 ((x.fst.fst == (32 : Int)) = false → (x.fst.fst == (9 : Int)) = blank x.fst)
theorem vcEq26 : fnVC E26 Try.f26 (bodyOf Try.f26) cBlank = vc26 := by kernel_rfl
/- fn 27 -/
def hs27 : List (Nat × Nat × Hint) := []
def nm27 : List Nat := []
noncomputable def E27 : Env := env tab [] [] noGl hs27 nm27
def vc27 : Prop :=
 ∀ (x : (Int × Int × Int × Int × Unit) × Unit),
 True →
 ((x.fst.fst == (32 : Int)) = true → true = blank x.fst) ∧
 ((x.fst.fst == (32 : Int)) = false → (x.fst.fst == (9 : Int)) = blank x.fst)
theorem vcEq27 : fnVC E27 Try.f27 (bodyOf Try.f27) cBlank = vc27 := by kernel_rfl
/- fn 28 -/
def hs28 : List (Nat × Nat × Hint) := [(0, 5, ⟨[.slot 17 t3], [0, 1, 5, 15, 16], [], []⟩)]
def nm28 : List Nat := []
noncomputable def E28 : Env := env tab [(29, cTakes), (27, cBlank), (31, cFit)] [] noGl hs28 nm28
def vc28 : Prop :=
 ∀ (x : List (Int × Int × Int × Int × Unit) × Int × Unit),
 okL x.fst →
 okL x.fst ∧
 (((↑(takes x.fst x.snd.fst) : Int) == (0 : Int)) = true → (0 : Int) = (↑(start x.fst x.snd.fst) : Int)) ∧
 (((↑(takes x.fst x.snd.fst) : Int) == (0 : Int)) = false →
 ((0 : Int) ≤ (↑(takes x.fst x.snd.fst) : Int) ∧
 (↑(takes x.fst x.snd.fst) : Int) ≤ (↑(List.length x.fst) : Int)) ∧
 ((0 : Int) = (0 : Int) ∧
 x.fst = x.fst ∧
 x.snd.fst = x.snd.fst ∧
 (↑(takes x.fst x.snd.fst) : Int) = (↑(takes x.fst x.snd.fst) : Int) ∧
 List.take (Int.toNat (↑(takes x.fst x.snd.fst) : Int)) x.fst =
 List.take (Int.toNat (↑(takes x.fst x.snd.fst) : Int)) x.fst ∧
 (↑(List.length (List.take (Int.toNat (↑(takes x.fst x.snd.fst) : Int)) x.fst)) : Int) =
 (↑(List.length (List.take (Int.toNat (↑(takes x.fst x.snd.fst) : Int)) x.fst)) : Int)) ∧
 ∃ (Z : Int × Unit → Prop),
 ∃ (μ : Int × Unit → Nat),
 Z ((0 : Int), ()) ∧
 ∀ (a : Int),
 Z (a, ()) →
 (decide
 (a <
 (↑(List.length (List.take (Int.toNat (↑(takes x.fst x.snd.fst) : Int)) x.fst)) :
 Int)) =
 true →
 ((0 : Int) ≤ a ∧
 a <
 (↑(List.length (List.take (Int.toNat (↑(takes x.fst x.snd.fst) : Int)) x.fst)) :
 Int)) ∧
 True ∧
 ((!blank
 (List.getD (List.take (Int.toNat (↑(takes x.fst x.snd.fst) : Int)) x.fst)
 (Int.toNat a) (Ty.dflt t38))) =
 true →
 (↑(takes x.fst x.snd.fst) : Int) = (↑(start x.fst x.snd.fst) : Int)) ∧
 ((!blank
 (List.getD (List.take (Int.toNat (↑(takes x.fst x.snd.fst) : Int)) x.fst)
 (Int.toNat a) (Ty.dflt t38))) =
 false →
 (IntKind.wrap IntKind.i64 (a + (1 : Int)) =
 IntKind.wrap IntKind.i64 (a + (1 : Int)) ∧
 x.fst = x.fst ∧
 x.snd.fst = x.snd.fst ∧
 (↑(takes x.fst x.snd.fst) : Int) = (↑(takes x.fst x.snd.fst) : Int) ∧
 List.take (Int.toNat (↑(takes x.fst x.snd.fst) : Int)) x.fst =
 List.take (Int.toNat (↑(takes x.fst x.snd.fst) : Int)) x.fst ∧
 (↑(List.length
 (List.take (Int.toNat (↑(takes x.fst x.snd.fst) : Int))
 x.fst)) :
 Int) =
 (↑(List.length
 (List.take (Int.toNat (↑(takes x.fst x.snd.fst) : Int))
 x.fst)) :
 Int)) ∧
 Z (IntKind.wrap IntKind.i64 (a + (1 : Int)), ()) ∧
 μ (IntKind.wrap IntKind.i64 (a + (1 : Int)), ()) < μ (a, ()))) ∧
 (decide
 (a <
 (↑(List.length (List.take (Int.toNat (↑(takes x.fst x.snd.fst) : Int)) x.fst)) :
 Int)) =
 false →
 okL x.fst ∧ (↑(fit x.fst x.snd.fst) : Int) = (↑(start x.fst x.snd.fst) : Int)))
theorem vcEq28 : fnVC E28 Try.f28 (bodyOf Try.f28) cStart = vc28 := by kernel_rfl
/- fn 29 -/
def hs29 : List (Nat × Nat × Hint) := [(0, 8, ⟨[.slot 6 t3, .slot 7 t3], [0, 5], [], []⟩)]
def nm29 : List Nat := []
noncomputable def E29 : Env := env tab [(31, cFit), (32, cBoundary)] [] noGl hs29 nm29
def vc29 : Prop :=
 ∀ (x : List (Int × Int × Int × Int × Unit) × Int × Unit),
 okL x.fst →
 (((↑(List.length x.fst) : Int) == (0 : Int)) = true → (0 : Int) = (↑(takes x.fst x.snd.fst) : Int)) ∧
 (((↑(List.length x.fst) : Int) == (0 : Int)) = false →
 okL x.fst ∧
 (((↑(fit x.fst x.snd.fst) : Int) == (↑(List.length x.fst) : Int)) = true →
 (↑(fit x.fst x.snd.fst) : Int) = (↑(takes x.fst x.snd.fst) : Int)) ∧
 (((↑(fit x.fst x.snd.fst) : Int) == (↑(List.length x.fst) : Int)) = false →
 ((1 : Int) = (1 : Int) ∧
 (0 : Int) = (0 : Int) ∧
 x.fst = x.fst ∧ (↑(fit x.fst x.snd.fst) : Int) = (↑(fit x.fst x.snd.fst) : Int)) ∧
 ∃ (Z : Int × Int × Unit → Prop),
 ∃ (μ : Int × Int × Unit → Nat),
 Z ((0 : Int), (1 : Int), ()) ∧
 ∀ (a a_1 : Int),
 Z (a, a_1, ()) →
 (decide (a_1 ≤ (↑(fit x.fst x.snd.fst) : Int)) = true →
 okL x.fst ∧
 (bound x.fst a_1 = true →
 (IntKind.wrap IntKind.i64 (a_1 + (1 : Int)) =
 IntKind.wrap IntKind.i64 (a_1 + (1 : Int)) ∧
 a_1 = a_1 ∧
 x.fst = x.fst ∧
 (↑(fit x.fst x.snd.fst) : Int) = (↑(fit x.fst x.snd.fst) : Int)) ∧
 Z (a_1, IntKind.wrap IntKind.i64 (a_1 + (1 : Int)), ()) ∧
 μ (a_1, IntKind.wrap IntKind.i64 (a_1 + (1 : Int)), ()) < μ (a, a_1, ())) ∧
 (bound x.fst a_1 = false →
 (IntKind.wrap IntKind.i64 (a_1 + (1 : Int)) =
 IntKind.wrap IntKind.i64 (a_1 + (1 : Int)) ∧
 a = a ∧
 x.fst = x.fst ∧
 (↑(fit x.fst x.snd.fst) : Int) = (↑(fit x.fst x.snd.fst) : Int)) ∧
 Z (a, IntKind.wrap IntKind.i64 (a_1 + (1 : Int)), ()) ∧
 μ (a, IntKind.wrap IntKind.i64 (a_1 + (1 : Int)), ()) < μ (a, a_1, ()))) ∧
 (decide (a_1 ≤ (↑(fit x.fst x.snd.fst) : Int)) = false →
 ((a == (0 : Int)) = true →
 (↑(fit x.fst x.snd.fst) : Int) = (↑(takes x.fst x.snd.fst) : Int)) ∧
 ((a == (0 : Int)) = false → a = (↑(takes x.fst x.snd.fst) : Int)))))
theorem vcEq29 : fnVC E29 Try.f29 (bodyOf Try.f29) cTakes = vc29 := by kernel_rfl
/- fn 31 -/
def hs31 : List (Nat × Nat × Hint) := [(0, 2, ⟨[.slot 5 t3], [0, 1], [], []⟩),
  (0, 6, ⟨[.slot 5 t3], [0], [], []⟩)]
def nm31 : List Nat := []
noncomputable def E31 : Env := env tab [(17, cWidth)] [] noGl hs31 nm31
def vc31 : Prop :=
 ∀ (x : List (Int × Int × Int × Int × Unit) × Int × Unit),
 okL x.fst →
 ((0 : Int) = (0 : Int) ∧ x.fst = x.fst ∧ x.snd.fst = x.snd.fst) ∧
 ∃ (Z : Int × Unit → Prop),
 ∃ (μ : Int × Unit → Nat),
 Z ((0 : Int), ()) ∧
 ∀ (a : Int),
 Z (a, ()) →
 (decide (a < (↑(List.length x.fst) : Int)) = true →
 ((0 : Int) ≤ IntKind.wrap IntKind.i64 (a + (1 : Int)) ∧
 IntKind.wrap IntKind.i64 (a + (1 : Int)) ≤ (↑(List.length x.fst) : Int)) ∧
 okW (List.take (Int.toNat (IntKind.wrap IntKind.i64 (a + (1 : Int)))) x.fst) ∧
 (decide
 (width (List.take (Int.toNat (IntKind.wrap IntKind.i64 (a + (1 : Int)))) x.fst) ≤
 x.snd.fst) =
 true →
 (IntKind.wrap IntKind.i64 (a + (1 : Int)) = IntKind.wrap IntKind.i64 (a + (1 : Int)) ∧
 x.fst = x.fst ∧ x.snd.fst = x.snd.fst) ∧
 Z (IntKind.wrap IntKind.i64 (a + (1 : Int)), ()) ∧
 μ (IntKind.wrap IntKind.i64 (a + (1 : Int)), ()) < μ (a, ())) ∧
 (decide
 (width (List.take (Int.toNat (IntKind.wrap IntKind.i64 (a + (1 : Int)))) x.fst) ≤
 x.snd.fst) =
 false →
 ((a == (0 : Int)) = true →
 ((1 : Int) = (1 : Int) ∧ x.fst = x.fst) ∧
 ∃ (Z : Int × Unit → Prop),
 ∃ (μ : Int × Unit → Nat),
 Z ((1 : Int), ()) ∧
 ∀ (a : Int),
 Z (a, ()) →
 (decide (a < (↑(List.length x.fst) : Int)) = true →
 ((0 : Int) ≤ a ∧ a < (↑(List.length x.fst) : Int)) ∧
 (((List.getD x.fst (Int.toNat a) (Ty.dflt t38)).snd.snd.fst ==
 (0 : Int)) =
 true →
 (IntKind.wrap IntKind.i64 (a + (1 : Int)) =
 IntKind.wrap IntKind.i64 (a + (1 : Int)) ∧
 x.fst = x.fst) ∧
 Z (IntKind.wrap IntKind.i64 (a + (1 : Int)), ()) ∧
 μ (IntKind.wrap IntKind.i64 (a + (1 : Int)), ()) <
 μ (a, ())) ∧
 (((List.getD x.fst (Int.toNat a) (Ty.dflt t38)).snd.snd.fst ==
 (0 : Int)) =
 false →
 a = (↑(fit x.fst x.snd.fst) : Int))) ∧
 (decide (a < (↑(List.length x.fst) : Int)) = false →
 a = (↑(fit x.fst x.snd.fst) : Int))) ∧
 ((a == (0 : Int)) = false → a = (↑(fit x.fst x.snd.fst) : Int)))) ∧
 (decide (a < (↑(List.length x.fst) : Int)) = false →
 ((a == (0 : Int)) = true →
 ((1 : Int) = (1 : Int) ∧ x.fst = x.fst) ∧
 ∃ (Z : Int × Unit → Prop),
 ∃ (μ : Int × Unit → Nat),
 Z ((1 : Int), ()) ∧
 ∀ (a : Int),
 Z (a, ()) →
 (decide (a < (↑(List.length x.fst) : Int)) = true →
 ((0 : Int) ≤ a ∧ a < (↑(List.length x.fst) : Int)) ∧
 (((List.getD x.fst (Int.toNat a) (Ty.dflt t38)).snd.snd.fst == (0 : Int)) =
 true →
 (IntKind.wrap IntKind.i64 (a + (1 : Int)) =
 IntKind.wrap IntKind.i64 (a + (1 : Int)) ∧
 x.fst = x.fst) ∧
 Z (IntKind.wrap IntKind.i64 (a + (1 : Int)), ()) ∧
 μ (IntKind.wrap IntKind.i64 (a + (1 : Int)), ()) < μ (a, ())) ∧
 (((List.getD x.fst (Int.toNat a) (Ty.dflt t38)).snd.snd.fst == (0 : Int)) =
 false →
 a = (↑(fit x.fst x.snd.fst) : Int))) ∧
 (decide (a < (↑(List.length x.fst) : Int)) = false →
 a = (↑(fit x.fst x.snd.fst) : Int))) ∧
 ((a == (0 : Int)) = false → a = (↑(fit x.fst x.snd.fst) : Int)))
theorem vcEq31 : fnVC E31 Try.f31 (bodyOf Try.f31) cFit = vc31 := by kernel_rfl
/- fn 32 -/
def hs32 : List (Nat × Nat × Hint) := []
def nm32 : List Nat := []
noncomputable def E32 : Env := env tab [(27, cBlank)] [] noGl hs32 nm32
def vc32 : Prop :=
 ∀ (x : List (Int × Int × Int × Int × Unit) × Int × Unit),
 okL x.fst →
 (decide (x.snd.fst > (0 : Int)) = true →
 (decide (x.snd.fst < (↑(List.length x.fst) : Int)) = true →
 ((0 : Int) ≤ IntKind.wrap IntKind.i64 (x.snd.fst - (1 : Int)) ∧
 IntKind.wrap IntKind.i64 (x.snd.fst - (1 : Int)) < (↑(List.length x.fst) : Int)) ∧
 True ∧
 (blank (List.getD x.fst (Int.toNat (IntKind.wrap IntKind.i64 (x.snd.fst - (1 : Int)))) (Ty.dflt t38)) =
 true →
 ((0 : Int) ≤ x.snd.fst ∧ x.snd.fst < (↑(List.length x.fst) : Int)) ∧
 True ∧
 ((!blank (List.getD x.fst (Int.toNat x.snd.fst) (Ty.dflt t38))) = true →
 ((0 : Int) ≤ x.snd.fst ∧ x.snd.fst < (↑(List.length x.fst) : Int)) ∧
 decide ((List.getD x.fst (Int.toNat x.snd.fst) (Ty.dflt t38)).snd.snd.fst > (0 : Int)) =
 bound x.fst x.snd.fst) ∧
 ((!blank (List.getD x.fst (Int.toNat x.snd.fst) (Ty.dflt t38))) = false →
 false = bound x.fst x.snd.fst)) ∧
 (blank
 (List.getD x.fst (Int.toNat (IntKind.wrap IntKind.i64 (x.snd.fst - (1 : Int)))) (Ty.dflt t38)) =
 false →
 false = bound x.fst x.snd.fst)) ∧
 (decide (x.snd.fst < (↑(List.length x.fst) : Int)) = false → false = bound x.fst x.snd.fst)) ∧
 (decide (x.snd.fst > (0 : Int)) = false → false = bound x.fst x.snd.fst)
theorem vcEq32 : fnVC E32 Try.f32 (bodyOf Try.f32) cBoundary = vc32 := by kernel_rfl
/- fn 34 -/
def hs34 : List (Nat × Nat × Hint) := [(0, 3, ⟨[.slot 15 t3], [0, 1, 5, 13, 14], [], []⟩)]
def nm34 : List Nat := []
noncomputable def E34 : Env := env tab [(35, cTakes), (26, cBlank), (36, cFit)] [] noGl hs34 nm34
def vc34 : Prop :=
 ∀ (x : List (Int × Int × Int × Int × Unit) × Int × Unit),
 okL x.fst →
 okL x.fst ∧
 ((0 : Int) ≤ (↑(takes x.fst x.snd.fst) : Int) ∧ (↑(takes x.fst x.snd.fst) : Int) ≤ (↑(List.length x.fst) : Int)) ∧
 ((0 : Int) = (0 : Int) ∧
 x.fst = x.fst ∧
 x.snd.fst = x.snd.fst ∧
 (↑(takes x.fst x.snd.fst) : Int) = (↑(takes x.fst x.snd.fst) : Int) ∧
 List.take (Int.toNat (↑(takes x.fst x.snd.fst) : Int)) x.fst =
 List.take (Int.toNat (↑(takes x.fst x.snd.fst) : Int)) x.fst ∧
 (↑(List.length (List.take (Int.toNat (↑(takes x.fst x.snd.fst) : Int)) x.fst)) : Int) =
 (↑(List.length (List.take (Int.toNat (↑(takes x.fst x.snd.fst) : Int)) x.fst)) : Int)) ∧
 ∃ (Z : Int × Unit → Prop),
 ∃ (μ : Int × Unit → Nat),
 Z ((0 : Int), ()) ∧
 ∀ (a : Int),
 Z (a, ()) →
 (decide
 (a <
 (↑(List.length (List.take (Int.toNat (↑(takes x.fst x.snd.fst) : Int)) x.fst)) : Int)) =
 true →
 ((0 : Int) ≤ a ∧
 a < (↑(List.length (List.take (Int.toNat (↑(takes x.fst x.snd.fst) : Int)) x.fst)) : Int)) ∧
 True ∧
 ((!blank
 (List.getD (List.take (Int.toNat (↑(takes x.fst x.snd.fst) : Int)) x.fst)
 (Int.toNat a) (Ty.dflt t38))) =
 true →
 (↑(takes x.fst x.snd.fst) : Int) = (↑(start x.fst x.snd.fst) : Int)) ∧
 ((!blank
 (List.getD (List.take (Int.toNat (↑(takes x.fst x.snd.fst) : Int)) x.fst)
 (Int.toNat a) (Ty.dflt t38))) =
 false →
 (IntKind.wrap IntKind.i64 (a + (1 : Int)) = IntKind.wrap IntKind.i64 (a + (1 : Int)) ∧
 x.fst = x.fst ∧
 x.snd.fst = x.snd.fst ∧
 (↑(takes x.fst x.snd.fst) : Int) = (↑(takes x.fst x.snd.fst) : Int) ∧
 List.take (Int.toNat (↑(takes x.fst x.snd.fst) : Int)) x.fst =
 List.take (Int.toNat (↑(takes x.fst x.snd.fst) : Int)) x.fst ∧
 (↑(List.length
 (List.take (Int.toNat (↑(takes x.fst x.snd.fst) : Int)) x.fst)) :
 Int) =
 (↑(List.length
 (List.take (Int.toNat (↑(takes x.fst x.snd.fst) : Int)) x.fst)) :
 Int)) ∧
 Z (IntKind.wrap IntKind.i64 (a + (1 : Int)), ()) ∧
 μ (IntKind.wrap IntKind.i64 (a + (1 : Int)), ()) < μ (a, ()))) ∧
 (decide
 (a <
 (↑(List.length (List.take (Int.toNat (↑(takes x.fst x.snd.fst) : Int)) x.fst)) : Int)) =
 false →
 (((↑(takes x.fst x.snd.fst) : Int) == (0 : Int)) = true →
 (0 : Int) = (↑(start x.fst x.snd.fst) : Int)) ∧
 (((↑(takes x.fst x.snd.fst) : Int) == (0 : Int)) = false →
 okL x.fst ∧ (↑(fit x.fst x.snd.fst) : Int) = (↑(start x.fst x.snd.fst) : Int)))
theorem vcEq34 : fnVC E34 Try.f34 (bodyOf Try.f34) cStart = vc34 := by kernel_rfl
/- fn 35 -/
def hs35 : List (Nat × Nat × Hint) := [(0, 7, ⟨[.slot 6 t3], [0, 5], [], []⟩)]
def nm35 : List Nat := []
noncomputable def E35 : Env := env tab [(36, cFit), (37, cBoundary)] [] noGl hs35 nm35
def vc35 : Prop :=
 ∀ (x : List (Int × Int × Int × Int × Unit) × Int × Unit),
 okL x.fst →
 (((↑(List.length x.fst) : Int) == (0 : Int)) = true → (0 : Int) = (↑(takes x.fst x.snd.fst) : Int)) ∧
 (((↑(List.length x.fst) : Int) == (0 : Int)) = false →
 okL x.fst ∧
 (((↑(fit x.fst x.snd.fst) : Int) == (↑(List.length x.fst) : Int)) = true →
 (↑(fit x.fst x.snd.fst) : Int) = (↑(takes x.fst x.snd.fst) : Int)) ∧
 (((↑(fit x.fst x.snd.fst) : Int) == (↑(List.length x.fst) : Int)) = false →
 ((↑(fit x.fst x.snd.fst) : Int) = (↑(fit x.fst x.snd.fst) : Int) ∧
 x.fst = x.fst ∧ (↑(fit x.fst x.snd.fst) : Int) = (↑(fit x.fst x.snd.fst) : Int)) ∧
 ∃ (Z : Int × Unit → Prop),
 ∃ (μ : Int × Unit → Nat),
 Z ((↑(fit x.fst x.snd.fst) : Int), ()) ∧
 ∀ (a : Int),
 Z (a, ()) →
 (decide (a > (0 : Int)) = true →
 okL x.fst ∧
 (bound x.fst a = true → a = (↑(takes x.fst x.snd.fst) : Int)) ∧
 (bound x.fst a = false →
 (IntKind.wrap IntKind.i64 (a - (1 : Int)) =
 IntKind.wrap IntKind.i64 (a - (1 : Int)) ∧
 x.fst = x.fst ∧
 (↑(fit x.fst x.snd.fst) : Int) = (↑(fit x.fst x.snd.fst) : Int)) ∧
 Z (IntKind.wrap IntKind.i64 (a - (1 : Int)), ()) ∧
 μ (IntKind.wrap IntKind.i64 (a - (1 : Int)), ()) < μ (a, ()))) ∧
 (decide (a > (0 : Int)) = false →
 (↑(fit x.fst x.snd.fst) : Int) = (↑(takes x.fst x.snd.fst) : Int))))
theorem vcEq35 : fnVC E35 Try.f35 (bodyOf Try.f35) cTakes = vc35 := by kernel_rfl
/- fn 36 -/
def hs36 : List (Nat × Nat × Hint) := [(0, 2, ⟨[.slot 5 t3, .slot 6 t3], [0, 1], [], []⟩),
  (0, 8, ⟨[.slot 5 t3], [0], [], []⟩)]
def nm36 : List Nat := []
noncomputable def E36 : Env := env tab [] [] noGl hs36 nm36
def vc36 : Prop :=
 ∀ (x : List (Int × Int × Int × Int × Unit) × Int × Unit),
 okL x.fst →
 ((0 : Int) = (0 : Int) ∧ (0 : Int) = (0 : Int) ∧ x.fst = x.fst ∧ x.snd.fst = x.snd.fst) ∧
 ∃ (Z : Int × Int × Unit → Prop),
 ∃ (μ : Int × Int × Unit → Nat),
 Z ((0 : Int), (0 : Int), ()) ∧
 ∀ (a a_1 : Int),
 Z (a, a_1, ()) →
 (decide (a < (↑(List.length x.fst) : Int)) = true →
 ((0 : Int) ≤ a ∧ a < (↑(List.length x.fst) : Int)) ∧
 (decide
 (IntKind.wrap IntKind.i64
 (a_1 + (List.getD x.fst (Int.toNat a) (Ty.dflt t38)).snd.snd.fst) ≤
 x.snd.fst) =
 true →
 ((0 : Int) ≤ a ∧ a < (↑(List.length x.fst) : Int)) ∧
 (IntKind.wrap IntKind.i64
 (a_1 + (List.getD x.fst (Int.toNat a) (Ty.dflt t38)).snd.snd.fst) =
 IntKind.wrap IntKind.i64
 (a_1 + (List.getD x.fst (Int.toNat a) (Ty.dflt t38)).snd.snd.fst) ∧
 IntKind.wrap IntKind.i64 (a + (1 : Int)) = IntKind.wrap IntKind.i64 (a + (1 : Int)) ∧
 x.fst = x.fst ∧ x.snd.fst = x.snd.fst) ∧
 Z
 (IntKind.wrap IntKind.i64 (a + (1 : Int)),
 IntKind.wrap IntKind.i64
 (a_1 + (List.getD x.fst (Int.toNat a) (Ty.dflt t38)).snd.snd.fst),
 ()) ∧
 μ
 (IntKind.wrap IntKind.i64 (a + (1 : Int)),
 IntKind.wrap IntKind.i64
 (a_1 + (List.getD x.fst (Int.toNat a) (Ty.dflt t38)).snd.snd.fst),
 ()) <
 μ (a, a_1, ())) ∧
 (decide
 (IntKind.wrap IntKind.i64
 (a_1 + (List.getD x.fst (Int.toNat a) (Ty.dflt t38)).snd.snd.fst) ≤
 x.snd.fst) =
 false →
 (decide (a > (0 : Int)) = true → a = (↑(fit x.fst x.snd.fst) : Int)) ∧
 (decide (a > (0 : Int)) = false →
 ((1 : Int) = (1 : Int) ∧ x.fst = x.fst) ∧
 ∃ (Z : Int × Unit → Prop),
 ∃ (μ : Int × Unit → Nat),
 Z ((1 : Int), ()) ∧
 ∀ (a : Int),
 Z (a, ()) →
 (decide (a < (↑(List.length x.fst) : Int)) = true →
 ((0 : Int) ≤ a ∧ a < (↑(List.length x.fst) : Int)) ∧
 (((List.getD x.fst (Int.toNat a) (Ty.dflt t38)).snd.snd.fst ==
 (0 : Int)) =
 true →
 (IntKind.wrap IntKind.i64 (a + (1 : Int)) =
 IntKind.wrap IntKind.i64 (a + (1 : Int)) ∧
 x.fst = x.fst) ∧
 Z (IntKind.wrap IntKind.i64 (a + (1 : Int)), ()) ∧
 μ (IntKind.wrap IntKind.i64 (a + (1 : Int)), ()) < μ (a, ())) ∧
 (((List.getD x.fst (Int.toNat a) (Ty.dflt t38)).snd.snd.fst ==
 (0 : Int)) =
 false →
 a = (↑(fit x.fst x.snd.fst) : Int))) ∧
 (decide (a < (↑(List.length x.fst) : Int)) = false →
 a = (↑(fit x.fst x.snd.fst) : Int))))) ∧
 (decide (a < (↑(List.length x.fst) : Int)) = false →
 (decide (a > (0 : Int)) = true → a = (↑(fit x.fst x.snd.fst) : Int)) ∧
 (decide (a > (0 : Int)) = false →
 ((1 : Int) = (1 : Int) ∧ x.fst = x.fst) ∧
 ∃ (Z : Int × Unit → Prop),
 ∃ (μ : Int × Unit → Nat),
 Z ((1 : Int), ()) ∧
 ∀ (a : Int),
 Z (a, ()) →
 (decide (a < (↑(List.length x.fst) : Int)) = true →
 ((0 : Int) ≤ a ∧ a < (↑(List.length x.fst) : Int)) ∧
 (((List.getD x.fst (Int.toNat a) (Ty.dflt t38)).snd.snd.fst == (0 : Int)) =
 true →
 (IntKind.wrap IntKind.i64 (a + (1 : Int)) =
 IntKind.wrap IntKind.i64 (a + (1 : Int)) ∧
 x.fst = x.fst) ∧
 Z (IntKind.wrap IntKind.i64 (a + (1 : Int)), ()) ∧
 μ (IntKind.wrap IntKind.i64 (a + (1 : Int)), ()) < μ (a, ())) ∧
 (((List.getD x.fst (Int.toNat a) (Ty.dflt t38)).snd.snd.fst == (0 : Int)) =
 false →
 a = (↑(fit x.fst x.snd.fst) : Int))) ∧
 (decide (a < (↑(List.length x.fst) : Int)) = false →
 a = (↑(fit x.fst x.snd.fst) : Int))))
theorem vcEq36 : fnVC E36 Try.f36 (bodyOf Try.f36) cFit = vc36 := by kernel_rfl
/- fn 37 -/
def hs37 : List (Nat × Nat × Hint) := []
def nm37 : List Nat := []
noncomputable def E37 : Env := env tab [(26, cBlank)] [] noGl hs37 nm37
def vc37 : Prop :=
 ∀ (x : List (Int × Int × Int × Int × Unit) × Int × Unit),
 okL x.fst →
 (decide (x.snd.fst > (0 : Int)) = true →
 (decide (x.snd.fst < (↑(List.length x.fst) : Int)) = true →
 ((0 : Int) ≤ IntKind.wrap IntKind.i64 (x.snd.fst - (1 : Int)) ∧
 IntKind.wrap IntKind.i64 (x.snd.fst - (1 : Int)) < (↑(List.length x.fst) : Int)) ∧
 True ∧
 (blank (List.getD x.fst (Int.toNat (IntKind.wrap IntKind.i64 (x.snd.fst - (1 : Int)))) (Ty.dflt t38)) =
 true →
 ((0 : Int) ≤ x.snd.fst ∧ x.snd.fst < (↑(List.length x.fst) : Int)) ∧
 True ∧
 ((!blank (List.getD x.fst (Int.toNat x.snd.fst) (Ty.dflt t38))) = true →
 ((0 : Int) ≤ x.snd.fst ∧ x.snd.fst < (↑(List.length x.fst) : Int)) ∧
 decide ((List.getD x.fst (Int.toNat x.snd.fst) (Ty.dflt t38)).snd.snd.fst > (0 : Int)) =
 bound x.fst x.snd.fst) ∧
 ((!blank (List.getD x.fst (Int.toNat x.snd.fst) (Ty.dflt t38))) = false →
 false = bound x.fst x.snd.fst)) ∧
 (blank
 (List.getD x.fst (Int.toNat (IntKind.wrap IntKind.i64 (x.snd.fst - (1 : Int)))) (Ty.dflt t38)) =
 false →
 false = bound x.fst x.snd.fst)) ∧
 (decide (x.snd.fst < (↑(List.length x.fst) : Int)) = false → false = bound x.fst x.snd.fst)) ∧
 (decide (x.snd.fst > (0 : Int)) = false → false = bound x.fst x.snd.fst)
theorem vcEq37 : fnVC E37 Try.f37 (bodyOf Try.f37) cBoundary = vc37 := by kernel_rfl
end Go.Fr.C20
