/-
  Conditions to be proved, function by function, printed by a program. Conditions: none.
-/
import Derived.Test.YtefahblfillfeaaC10U
namespace Go.Fr.C10
open Go Go.Fr Go.Proofs
set_option maxRecDepth 100000

/- fn 4 -/
def hs4 : List (Nat × Nat × Hint) := [(0, 5, ⟨[.slot 5 t3, .slot 29 t3], [1, 27, 28], [], []⟩)]
def nm4 : List Nat := []
noncomputable def E4 : Env := env tab [(15, cCheck), (9, cTwo), (16, cDecode), (17, cOf), (11, cRefs), (19, cRefOf), (18, cSame), (13, cNormal), (20, cDelta)] [] noGl hs4 nm4
def vc4 : Prop :=
 ∀ (x : Int × List (Int × Int × ByteArray × Unit) × Unit),
 (List.length x.snd.fst ≤ maxLen ∧ ∀ (e : Ty.den t36), e ∈ x.snd.fst → ByteArray.size e.snd.snd.fst ≤ maxLen) →
 (decide (x.fst < (0 : Int)) = true → True ∧ true = true) ∧
 (decide (x.fst < (0 : Int)) = false →
 (decide (x.fst > (1000 : Int)) = true → True ∧ true = true) ∧
 (decide (x.fst > (1000 : Int)) = false →
 (decide ((↑(List.length x.snd.fst) : Int) > (64 : Int)) = true → True ∧ true = true) ∧
 (decide ((↑(List.length x.snd.fst) : Int) > (64 : Int)) = false →
 List.length x.snd.fst ≤ maxLen ∧
 ((check x.fst x.snd.fst != (0 : Int)) = true → True ∧ true = true) ∧
 ((check x.fst x.snd.fst != (0 : Int)) = false →
 ((0 : Int) = (0 : Int) ∧
 (0 : Int) = (0 : Int) ∧
 x.snd.fst = x.snd.fst ∧
 x.snd.fst = x.snd.fst ∧
 (↑(List.length x.snd.fst) : Int) = (↑(List.length x.snd.fst) : Int)) ∧
 ∃ (Z : Int × Int × Unit → Prop),
 ∃ (μ : Int × Int × Unit → Nat),
 Z ((0 : Int), (0 : Int), ()) ∧
 ∀ (a a_1 : Int),
 Z (a, a_1, ()) →
 (decide (a_1 < (↑(List.length x.snd.fst) : Int)) = true →
 ((0 : Int) ≤ a_1 ∧ a_1 < (↑(List.length x.snd.fst) : Int)) ∧
 (decide
 ((↑(ByteArray.size
 (List.getD x.snd.fst (Int.toNat a_1)
 (Ty.dflt t36)).snd.snd.fst) :
 Int) >
 (500 : Int)) =
 true →
 True ∧ true = true) ∧
 (decide
 ((↑(ByteArray.size
 (List.getD x.snd.fst (Int.toNat a_1)
 (Ty.dflt t36)).snd.snd.fst) :
 Int) >
 (500 : Int)) =
 false →
 ByteArray.size
 (List.getD x.snd.fst (Int.toNat a_1) (Ty.dflt t36)).snd.snd.fst ≤
 (1000000000 : Nat) ∧
 (IntKind.wrap IntKind.i64 (a_1 + (1 : Int)) =
 IntKind.wrap IntKind.i64 (a_1 + (1 : Int)) ∧
 IntKind.wrap IntKind.i64
 (IntKind.wrap IntKind.i64
 (a +
 (↑(List.length
 (decodeL
 (List.getD x.snd.fst (Int.toNat a_1)
 (Ty.dflt t36)).snd.snd.fst)) :
 Int)) -
 IntKind.wrap IntKind.i64
 ((List.getD x.snd.fst (Int.toNat a_1)
 (Ty.dflt t36)).snd.fst -
 (List.getD x.snd.fst (Int.toNat a_1)
 (Ty.dflt t36)).fst)) =
 IntKind.wrap IntKind.i64
 (IntKind.wrap IntKind.i64
 (a +
 (↑(List.length
 (decodeL
 (List.getD x.snd.fst (Int.toNat a_1)
 (Ty.dflt t36)).snd.snd.fst)) :
 Int)) -
 IntKind.wrap IntKind.i64
 ((List.getD x.snd.fst (Int.toNat a_1)
 (Ty.dflt t36)).snd.fst -
 (List.getD x.snd.fst (Int.toNat a_1)
 (Ty.dflt t36)).fst)) ∧
 x.snd.fst = x.snd.fst ∧
 x.snd.fst = x.snd.fst ∧
 (↑(List.length x.snd.fst) : Int) =
 (↑(List.length x.snd.fst) : Int)) ∧
 Z
 (IntKind.wrap IntKind.i64
 (IntKind.wrap IntKind.i64
 (a +
 (↑(List.length
 (decodeL
 (List.getD x.snd.fst (Int.toNat a_1)
 (Ty.dflt t36)).snd.snd.fst)) :
 Int)) -
 IntKind.wrap IntKind.i64
 ((List.getD x.snd.fst (Int.toNat a_1)
 (Ty.dflt t36)).snd.fst -
 (List.getD x.snd.fst (Int.toNat a_1) (Ty.dflt t36)).fst)),
 IntKind.wrap IntKind.i64 (a_1 + (1 : Int)), ()) ∧
 μ
 (IntKind.wrap IntKind.i64
 (IntKind.wrap IntKind.i64
 (a +
 (↑(List.length
 (decodeL
 (List.getD x.snd.fst (Int.toNat a_1)
 (Ty.dflt t36)).snd.snd.fst)) :
 Int)) -
 IntKind.wrap IntKind.i64
 ((List.getD x.snd.fst (Int.toNat a_1)
 (Ty.dflt t36)).snd.fst -
 (List.getD x.snd.fst (Int.toNat a_1)
 (Ty.dflt t36)).fst)),
 IntKind.wrap IntKind.i64 (a_1 + (1 : Int)), ()) <
 μ (a, a_1, ()))) ∧
 (decide (a_1 < (↑(List.length x.snd.fst) : Int)) = false →
 fair x.snd.fst ∧
 List.length (ofAll x.snd.fst).fst ≤ (1000000000 : Nat) ∧
 fair x.snd.fst ∧
 (List.length (ofAll x.snd.fst).fst ≤ maxLen ∧
 List.length (ofAll x.snd.fst).fst ≤ maxLen) ∧
 (decide ((ofAll x.snd.fst).fst = (ofAll x.snd.fst).fst) = true →
 List.length (ofAll x.snd.fst).fst ≤ maxLen ∧
 (normal (ofAll x.snd.fst).fst = true →
 List.length (ofAll x.snd.fst).fst ≤ maxLen ∧
 ((delta (ofAll x.snd.fst).fst == a) = true →
 True ∧ true = true) ∧
 ((delta (ofAll x.snd.fst).fst == a) = false →
 false = true)) ∧
 (normal (ofAll x.snd.fst).fst = false → false = true)) ∧
 (decide ((ofAll x.snd.fst).fst = (ofAll x.snd.fst).fst) = false →
 false = true))))))
theorem vcEq4 : fnVC E4 Try.f4 (bodyOf Try.f4) cPatchOf = vc4 := by kernel_rfl
/- fn 15 -/
def hs15 : List (Nat × Nat × Hint) := [(0, 5, ⟨[.slot 5 t3, .slot 13 t3], [0, 11, 12], [], []⟩)]
def nm15 : List Nat := []
noncomputable def E15 : Env := env tab [(29, cInside)] [] noGl hs15 nm15
def vc15 : Prop :=
 ∀ (x : Int × List (Int × Int × ByteArray × Unit) × Unit),
 List.length x.snd.fst ≤ maxLen →
 (decide ((↑(List.length x.snd.fst) : Int) > (64 : Int)) = true → (2 : Int) = check x.fst x.snd.fst) ∧
 (decide ((↑(List.length x.snd.fst) : Int) > (64 : Int)) = false →
 ((0 : Int) = (0 : Int) ∧
 (0 : Int) = (0 : Int) ∧
 x.fst = x.fst ∧
 x.snd.fst = x.snd.fst ∧ (↑(List.length x.snd.fst) : Int) = (↑(List.length x.snd.fst) : Int)) ∧
 ∃ (Z : Int × Int × Unit → Prop),
 ∃ (μ : Int × Int × Unit → Nat),
 Z ((0 : Int), (0 : Int), ()) ∧
 ∀ (a a_1 : Int),
 Z (a, a_1, ()) →
 (decide (a_1 < (↑(List.length x.snd.fst) : Int)) = true →
 ((0 : Int) ≤ a_1 ∧ a_1 < (↑(List.length x.snd.fst) : Int)) ∧
 True ∧
 ((!inside x.fst (List.getD x.snd.fst (Int.toNat a_1) (Ty.dflt t36)).fst
 (List.getD x.snd.fst (Int.toNat a_1) (Ty.dflt t36)).snd.fst) =
 true →
 (1 : Int) = check x.fst x.snd.fst) ∧
 ((!inside x.fst (List.getD x.snd.fst (Int.toNat a_1) (Ty.dflt t36)).fst
 (List.getD x.snd.fst (Int.toNat a_1) (Ty.dflt t36)).snd.fst) =
 false →
 (decide ((List.getD x.snd.fst (Int.toNat a_1) (Ty.dflt t36)).fst < a) = true →
 (90 : Int) = check x.fst x.snd.fst) ∧
 (decide ((List.getD x.snd.fst (Int.toNat a_1) (Ty.dflt t36)).fst < a) = false →
 (IntKind.wrap IntKind.i64 (a_1 + (1 : Int)) =
 IntKind.wrap IntKind.i64 (a_1 + (1 : Int)) ∧
 (List.getD x.snd.fst (Int.toNat a_1) (Ty.dflt t36)).snd.fst =
 (List.getD x.snd.fst (Int.toNat a_1) (Ty.dflt t36)).snd.fst ∧
 x.fst = x.fst ∧
 x.snd.fst = x.snd.fst ∧
 (↑(List.length x.snd.fst) : Int) = (↑(List.length x.snd.fst) : Int)) ∧
 Z
 ((List.getD x.snd.fst (Int.toNat a_1) (Ty.dflt t36)).snd.fst,
 IntKind.wrap IntKind.i64 (a_1 + (1 : Int)), ()) ∧
 μ
 ((List.getD x.snd.fst (Int.toNat a_1) (Ty.dflt t36)).snd.fst,
 IntKind.wrap IntKind.i64 (a_1 + (1 : Int)), ()) <
 μ (a, a_1, ())))) ∧
 (decide (a_1 < (↑(List.length x.snd.fst) : Int)) = false → (0 : Int) = check x.fst x.snd.fst))
theorem vcEq15 : fnVC E15 Try.f15 (bodyOf Try.f15) cCheck = vc15 := by kernel_rfl
/- fn 16 -/
def hs16 : List (Nat × Nat × Hint) := [(0, 3, ⟨[.rowS 3 900000003 t21 21, .slot 4 t3], [0], [], []⟩)]
def nm16 : List Nat := []
noncomputable def E16 : Env := env tab [(30, cStep)] [] noGl hs16 nm16
def vc16 : Prop :=
 ∀ (x : ByteArray × Unit),
 ByteArray.size x.fst ≤ (1000000000 : Nat) →
 (((0 : Int) = (0 : Int) ∧ True ∧ x.fst = x.fst) ∧ True ∧ True) ∧
 ∃ (Z : List Int × Int × Unit → Prop),
 ∃ (μ : List Int × Int × Unit → Nat),
 Z ([], (0 : Int), ()) ∧
 ∀ (a : List Int) (a_1 : Int),
 Z (a, a_1, ()) →
 (decide (a_1 < (↑(ByteArray.size x.fst) : Int)) = true →
 ByteArray.size x.fst ≤ maxLen ∧
 (List.length a + List.length [(uStep x.fst a_1).fst]) * (4 : Nat) ≤ (140737488355328 : Nat) ∧
 List.length a + List.length [(uStep x.fst a_1).fst] ≤ maxLen ∧
 ((IntKind.wrap IntKind.i64 (a_1 + (uStep x.fst a_1).snd.fst) =
 IntKind.wrap IntKind.i64 (a_1 + (uStep x.fst a_1).snd.fst) ∧
 True ∧ x.fst = x.fst) ∧
 a ++ [(uStep x.fst a_1).fst] = a ++ [(uStep x.fst a_1).fst] ∧ True) ∧
 Z
 (a ++ [(uStep x.fst a_1).fst],
 IntKind.wrap IntKind.i64 (a_1 + (uStep x.fst a_1).snd.fst), ()) ∧
 μ
 (a ++ [(uStep x.fst a_1).fst],
 IntKind.wrap IntKind.i64 (a_1 + (uStep x.fst a_1).snd.fst), ()) <
 μ (a, a_1, ())) ∧
 (decide (a_1 < (↑(ByteArray.size x.fst) : Int)) = false → a = decodeL x.fst)
theorem vcEq16 : fnVC E16 Try.f16 (bodyOf Try.f16) cDecode = vc16 := by kernel_rfl
/- fn 17 -/
def hs17 : List (Nat × Nat × Hint) := [(0, 4, ⟨[.rowS 3 900000003 t56 56, .slot 4 t3, .slot 12 t3], [10, 11], [], []⟩)]
def nm17 : List Nat := []
noncomputable def E17 : Env := env tab [(31, cCount), (28, cSize)] [] noGl hs17 nm17
def vc17 : Prop :=
 ∀ (x : List (Int × Int × ByteArray × Unit) × Unit),
 fair x.fst →
 (((0 : Int) = (0 : Int) ∧
 (0 : Int) = (0 : Int) ∧ True ∧ x.fst = x.fst ∧ (↑(List.length x.fst) : Int) = (↑(List.length x.fst) : Int)) ∧
 True ∧ True) ∧
 ∃ (Z : List Chg × Int × Int × Unit → Prop),
 ∃ (μ : List Chg × Int × Int × Unit → Nat),
 Z ([], (0 : Int), (0 : Int), ()) ∧
 ∀ (a : List Chg) (a_1 a_2 : Int),
 Z (a, a_1, a_2, ()) →
 (decide (a_2 < (↑(List.length x.fst) : Int)) = true →
 ((0 : Int) ≤ a_2 ∧ a_2 < (↑(List.length x.fst) : Int)) ∧
 ByteArray.size (List.getD x.fst (Int.toNat a_2) (Ty.dflt t36)).snd.snd.fst ≤ maxLen ∧
 True ∧
 True ∧
 ((IntKind.wrap IntKind.i64
 (size
 ((List.getD x.fst (Int.toNat a_2) (Ty.dflt t36)).fst,
 (List.getD x.fst (Int.toNat a_2) (Ty.dflt t36)).snd.fst, ()) +
 size
 (IntKind.wrap IntKind.i64
 ((List.getD x.fst (Int.toNat a_2) (Ty.dflt t36)).fst + a_1),
 IntKind.wrap IntKind.i64
 (IntKind.wrap IntKind.i64
 ((List.getD x.fst (Int.toNat a_2) (Ty.dflt t36)).fst + a_1) +
 (↑(List.length
 (decodeL
 (List.getD x.fst (Int.toNat a_2) (Ty.dflt t36)).snd.snd.fst)) :
 Int)),
 ())) ==
 (0 : Int)) =
 true →
 ((IntKind.wrap IntKind.i64 (a_2 + (1 : Int)) =
 IntKind.wrap IntKind.i64 (a_2 + (1 : Int)) ∧
 IntKind.wrap IntKind.i64
 (a_1 +
 IntKind.wrap IntKind.i64
 ((↑(List.length
 (decodeL
 (List.getD x.fst (Int.toNat a_2)
 (Ty.dflt t36)).snd.snd.fst)) :
 Int) -
 IntKind.wrap IntKind.i64
 ((List.getD x.fst (Int.toNat a_2) (Ty.dflt t36)).snd.fst -
 (List.getD x.fst (Int.toNat a_2) (Ty.dflt t36)).fst))) =
 IntKind.wrap IntKind.i64
 (a_1 +
 IntKind.wrap IntKind.i64
 ((↑(List.length
 (decodeL
 (List.getD x.fst (Int.toNat a_2)
 (Ty.dflt t36)).snd.snd.fst)) :
 Int) -
 IntKind.wrap IntKind.i64
 ((List.getD x.fst (Int.toNat a_2) (Ty.dflt t36)).snd.fst -
 (List.getD x.fst (Int.toNat a_2) (Ty.dflt t36)).fst))) ∧
 True ∧
 x.fst = x.fst ∧ (↑(List.length x.fst) : Int) = (↑(List.length x.fst) : Int)) ∧
 a = a ∧ True) ∧
 Z
 (a,
 IntKind.wrap IntKind.i64
 (a_1 +
 IntKind.wrap IntKind.i64
 ((↑(List.length
 (decodeL
 (List.getD x.fst (Int.toNat a_2) (Ty.dflt t36)).snd.snd.fst)) :
 Int) -
 IntKind.wrap IntKind.i64
 ((List.getD x.fst (Int.toNat a_2) (Ty.dflt t36)).snd.fst -
 (List.getD x.fst (Int.toNat a_2) (Ty.dflt t36)).fst))),
 IntKind.wrap IntKind.i64 (a_2 + (1 : Int)), ()) ∧
 μ
 (a,
 IntKind.wrap IntKind.i64
 (a_1 +
 IntKind.wrap IntKind.i64
 ((↑(List.length
 (decodeL
 (List.getD x.fst (Int.toNat a_2)
 (Ty.dflt t36)).snd.snd.fst)) :
 Int) -
 IntKind.wrap IntKind.i64
 ((List.getD x.fst (Int.toNat a_2) (Ty.dflt t36)).snd.fst -
 (List.getD x.fst (Int.toNat a_2) (Ty.dflt t36)).fst))),
 IntKind.wrap IntKind.i64 (a_2 + (1 : Int)), ()) <
 μ (a, a_1, a_2, ())) ∧
 ((IntKind.wrap IntKind.i64
 (size
 ((List.getD x.fst (Int.toNat a_2) (Ty.dflt t36)).fst,
 (List.getD x.fst (Int.toNat a_2) (Ty.dflt t36)).snd.fst, ()) +
 size
 (IntKind.wrap IntKind.i64
 ((List.getD x.fst (Int.toNat a_2) (Ty.dflt t36)).fst + a_1),
 IntKind.wrap IntKind.i64
 (IntKind.wrap IntKind.i64
 ((List.getD x.fst (Int.toNat a_2) (Ty.dflt t36)).fst + a_1) +
 (↑(List.length
 (decodeL
 (List.getD x.fst (Int.toNat a_2) (Ty.dflt t36)).snd.snd.fst)) :
 Int)),
 ())) ==
 (0 : Int)) =
 false →
 (decide (IntKind.wrap IntKind.i64 ((↑(List.length a) : Int) - (1 : Int)) ≥ (0 : Int)) =
 true →
 ((0 : Int) ≤ IntKind.wrap IntKind.i64 ((↑(List.length a) : Int) - (1 : Int)) ∧
 IntKind.wrap IntKind.i64 ((↑(List.length a) : Int) - (1 : Int)) <
 (↑(List.length a) : Int)) ∧
 (((List.getD a
 (Int.toNat
 (IntKind.wrap IntKind.i64
 ((↑(List.length a) : Int) - (1 : Int))))
 (Ty.dflt t56)).fst.snd.fst ==
 (List.getD x.fst (Int.toNat a_2) (Ty.dflt t36)).fst) =
 true →
 ((0 : Int) ≤ IntKind.wrap IntKind.i64 ((↑(List.length a) : Int) - (1 : Int)) ∧
 IntKind.wrap IntKind.i64 ((↑(List.length a) : Int) - (1 : Int)) <
 (↑(List.length a) : Int)) ∧
 ((0 : Int) ≤
 IntKind.wrap IntKind.i64 ((↑(List.length a) : Int) - (1 : Int)) ∧
 IntKind.wrap IntKind.i64 ((↑(List.length a) : Int) - (1 : Int)) <
 (↑(List.length
 (List.set a
 (Int.toNat
 (IntKind.wrap IntKind.i64
 ((↑(List.length a) : Int) - (1 : Int))))
 (((List.getD a
 (Int.toNat
 (IntKind.wrap IntKind.i64
 ((↑(List.length a) : Int) - (1 : Int))))
 (Ty.dflt t56)).fst.fst,
 (List.getD x.fst (Int.toNat a_2) (Ty.dflt t36)).snd.fst,
 ()),
 (List.getD a
 (Int.toNat
 (IntKind.wrap IntKind.i64
 ((↑(List.length a) : Int) - (1 : Int))))
 (Ty.dflt t56)).snd))) :
 Int)) ∧
 ((IntKind.wrap IntKind.i64 (a_2 + (1 : Int)) =
 IntKind.wrap IntKind.i64 (a_2 + (1 : Int)) ∧
 IntKind.wrap IntKind.i64
 (a_1 +
 IntKind.wrap IntKind.i64
 ((↑(List.length
 (decodeL
 (List.getD x.fst (Int.toNat a_2)
 (Ty.dflt t36)).snd.snd.fst)) :
 Int) -
 IntKind.wrap IntKind.i64
 ((List.getD x.fst (Int.toNat a_2)
 (Ty.dflt t36)).snd.fst -
 (List.getD x.fst (Int.toNat a_2)
 (Ty.dflt t36)).fst))) =
 IntKind.wrap IntKind.i64
 (a_1 +
 IntKind.wrap IntKind.i64
 ((↑(List.length
 (decodeL
 (List.getD x.fst (Int.toNat a_2)
 (Ty.dflt t36)).snd.snd.fst)) :
 Int) -
 IntKind.wrap IntKind.i64
 ((List.getD x.fst (Int.toNat a_2)
 (Ty.dflt t36)).snd.fst -
 (List.getD x.fst (Int.toNat a_2)
 (Ty.dflt t36)).fst))) ∧
 True ∧
 x.fst = x.fst ∧
 (↑(List.length x.fst) : Int) = (↑(List.length x.fst) : Int)) ∧
 List.set
 (List.set a
 (Int.toNat
 (IntKind.wrap IntKind.i64
 ((↑(List.length a) : Int) - (1 : Int))))
 (((List.getD a
 (Int.toNat
 (IntKind.wrap IntKind.i64
 ((↑(List.length a) : Int) - (1 : Int))))
 (Ty.dflt t56)).fst.fst,
 (List.getD x.fst (Int.toNat a_2) (Ty.dflt t36)).snd.fst,
 ()),
 (List.getD a
 (Int.toNat
 (IntKind.wrap IntKind.i64
 ((↑(List.length a) : Int) - (1 : Int))))
 (Ty.dflt t56)).snd))
 (Int.toNat
 (IntKind.wrap IntKind.i64
 ((↑(List.length a) : Int) - (1 : Int))))
 ((List.getD
 (List.set a
 (Int.toNat
 (IntKind.wrap IntKind.i64
 ((↑(List.length a) : Int) - (1 : Int))))
 (((List.getD a
 (Int.toNat
 (IntKind.wrap IntKind.i64
 ((↑(List.length a) : Int) - (1 : Int))))
 (Ty.dflt t56)).fst.fst,
 (List.getD x.fst (Int.toNat a_2)
 (Ty.dflt t36)).snd.fst,
 ()),
 (List.getD a
 (Int.toNat
 (IntKind.wrap IntKind.i64
 ((↑(List.length a) : Int) - (1 : Int))))
 (Ty.dflt t56)).snd))
 (Int.toNat
 (IntKind.wrap IntKind.i64
 ((↑(List.length a) : Int) - (1 : Int))))
 (Ty.dflt t56)).fst,
 ((List.getD
 (List.set a
 (Int.toNat
 (IntKind.wrap IntKind.i64
 ((↑(List.length a) : Int) - (1 : Int))))
 (((List.getD a
 (Int.toNat
 (IntKind.wrap IntKind.i64
 ((↑(List.length a) : Int) -
 (1 : Int))))
 (Ty.dflt t56)).fst.fst,
 (List.getD x.fst (Int.toNat a_2)
 (Ty.dflt t36)).snd.fst,
 ()),
 (List.getD a
 (Int.toNat
 (IntKind.wrap IntKind.i64
 ((↑(List.length a) : Int) - (1 : Int))))
 (Ty.dflt t56)).snd))
 (Int.toNat
 (IntKind.wrap IntKind.i64
 ((↑(List.length a) : Int) - (1 : Int))))
 (Ty.dflt t56)).snd.fst.fst,
 IntKind.wrap IntKind.i64
 (IntKind.wrap IntKind.i64
 ((List.getD x.fst (Int.toNat a_2) (Ty.dflt t36)).fst +
 a_1) +
 (↑(List.length
 (decodeL
 (List.getD x.fst (Int.toNat a_2)
 (Ty.dflt t36)).snd.snd.fst)) :
 Int)),
 ()),
 ()) =
 List.set
 (List.set a
 (Int.toNat
 (IntKind.wrap IntKind.i64
 ((↑(List.length a) : Int) - (1 : Int))))
 (((List.getD a
 (Int.toNat
 (IntKind.wrap IntKind.i64
 ((↑(List.length a) : Int) - (1 : Int))))
 (Ty.dflt t56)).fst.fst,
 (List.getD x.fst (Int.toNat a_2) (Ty.dflt t36)).snd.fst,
 ()),
 (List.getD a
 (Int.toNat
 (IntKind.wrap IntKind.i64
 ((↑(List.length a) : Int) - (1 : Int))))
 (Ty.dflt t56)).snd))
 (Int.toNat
 (IntKind.wrap IntKind.i64
 ((↑(List.length a) : Int) - (1 : Int))))
 ((List.getD
 (List.set a
 (Int.toNat
 (IntKind.wrap IntKind.i64
 ((↑(List.length a) : Int) - (1 : Int))))
 (((List.getD a
 (Int.toNat
 (IntKind.wrap IntKind.i64
 ((↑(List.length a) : Int) - (1 : Int))))
 (Ty.dflt t56)).fst.fst,
 (List.getD x.fst (Int.toNat a_2)
 (Ty.dflt t36)).snd.fst,
 ()),
 (List.getD a
 (Int.toNat
 (IntKind.wrap IntKind.i64
 ((↑(List.length a) : Int) - (1 : Int))))
 (Ty.dflt t56)).snd))
 (Int.toNat
 (IntKind.wrap IntKind.i64
 ((↑(List.length a) : Int) - (1 : Int))))
 (Ty.dflt t56)).fst,
 ((List.getD
 (List.set a
 (Int.toNat
 (IntKind.wrap IntKind.i64
 ((↑(List.length a) : Int) - (1 : Int))))
 (((List.getD a
 (Int.toNat
 (IntKind.wrap IntKind.i64
 ((↑(List.length a) : Int) -
 (1 : Int))))
 (Ty.dflt t56)).fst.fst,
 (List.getD x.fst (Int.toNat a_2)
 (Ty.dflt t36)).snd.fst,
 ()),
 (List.getD a
 (Int.toNat
 (IntKind.wrap IntKind.i64
 ((↑(List.length a) : Int) - (1 : Int))))
 (Ty.dflt t56)).snd))
 (Int.toNat
 (IntKind.wrap IntKind.i64
 ((↑(List.length a) : Int) - (1 : Int))))
 (Ty.dflt t56)).snd.fst.fst,
 IntKind.wrap IntKind.i64
 (IntKind.wrap IntKind.i64
 ((List.getD x.fst (Int.toNat a_2) (Ty.dflt t36)).fst +
 a_1) +
 (↑(List.length
 (decodeL
 (List.getD x.fst (Int.toNat a_2)
 (Ty.dflt t36)).snd.snd.fst)) :
 Int)),
 ()),
 ()) ∧
 True) ∧
 Z
 (List.set
 (List.set a
 (Int.toNat
 (IntKind.wrap IntKind.i64
 ((↑(List.length a) : Int) - (1 : Int))))
 (((List.getD a
 (Int.toNat
 (IntKind.wrap IntKind.i64
 ((↑(List.length a) : Int) - (1 : Int))))
 (Ty.dflt t56)).fst.fst,
 (List.getD x.fst (Int.toNat a_2) (Ty.dflt t36)).snd.fst,
 ()),
 (List.getD a
 (Int.toNat
 (IntKind.wrap IntKind.i64
 ((↑(List.length a) : Int) - (1 : Int))))
 (Ty.dflt t56)).snd))
 (Int.toNat
 (IntKind.wrap IntKind.i64
 ((↑(List.length a) : Int) - (1 : Int))))
 ((List.getD
 (List.set a
 (Int.toNat
 (IntKind.wrap IntKind.i64
 ((↑(List.length a) : Int) - (1 : Int))))
 (((List.getD a
 (Int.toNat
 (IntKind.wrap IntKind.i64
 ((↑(List.length a) : Int) - (1 : Int))))
 (Ty.dflt t56)).fst.fst,
 (List.getD x.fst (Int.toNat a_2)
 (Ty.dflt t36)).snd.fst,
 ()),
 (List.getD a
 (Int.toNat
 (IntKind.wrap IntKind.i64
 ((↑(List.length a) : Int) - (1 : Int))))
 (Ty.dflt t56)).snd))
 (Int.toNat
 (IntKind.wrap IntKind.i64
 ((↑(List.length a) : Int) - (1 : Int))))
 (Ty.dflt t56)).fst,
 ((List.getD
 (List.set a
 (Int.toNat
 (IntKind.wrap IntKind.i64
 ((↑(List.length a) : Int) - (1 : Int))))
 (((List.getD a
 (Int.toNat
 (IntKind.wrap IntKind.i64
 ((↑(List.length a) : Int) -
 (1 : Int))))
 (Ty.dflt t56)).fst.fst,
 (List.getD x.fst (Int.toNat a_2)
 (Ty.dflt t36)).snd.fst,
 ()),
 (List.getD a
 (Int.toNat
 (IntKind.wrap IntKind.i64
 ((↑(List.length a) : Int) - (1 : Int))))
 (Ty.dflt t56)).snd))
 (Int.toNat
 (IntKind.wrap IntKind.i64
 ((↑(List.length a) : Int) - (1 : Int))))
 (Ty.dflt t56)).snd.fst.fst,
 IntKind.wrap IntKind.i64
 (IntKind.wrap IntKind.i64
 ((List.getD x.fst (Int.toNat a_2) (Ty.dflt t36)).fst +
 a_1) +
 (↑(List.length
 (decodeL
 (List.getD x.fst (Int.toNat a_2)
 (Ty.dflt t36)).snd.snd.fst)) :
 Int)),
 ()),
 ()),
 IntKind.wrap IntKind.i64
 (a_1 +
 IntKind.wrap IntKind.i64
 ((↑(List.length
 (decodeL
 (List.getD x.fst (Int.toNat a_2)
 (Ty.dflt t36)).snd.snd.fst)) :
 Int) -
 IntKind.wrap IntKind.i64
 ((List.getD x.fst (Int.toNat a_2)
 (Ty.dflt t36)).snd.fst -
 (List.getD x.fst (Int.toNat a_2)
 (Ty.dflt t36)).fst))),
 IntKind.wrap IntKind.i64 (a_2 + (1 : Int)), ()) ∧
 μ
 (List.set
 (List.set a
 (Int.toNat
 (IntKind.wrap IntKind.i64
 ((↑(List.length a) : Int) - (1 : Int))))
 (((List.getD a
 (Int.toNat
 (IntKind.wrap IntKind.i64
 ((↑(List.length a) : Int) - (1 : Int))))
 (Ty.dflt t56)).fst.fst,
 (List.getD x.fst (Int.toNat a_2) (Ty.dflt t36)).snd.fst,
 ()),
 (List.getD a
 (Int.toNat
 (IntKind.wrap IntKind.i64
 ((↑(List.length a) : Int) - (1 : Int))))
 (Ty.dflt t56)).snd))
 (Int.toNat
 (IntKind.wrap IntKind.i64
 ((↑(List.length a) : Int) - (1 : Int))))
 ((List.getD
 (List.set a
 (Int.toNat
 (IntKind.wrap IntKind.i64
 ((↑(List.length a) : Int) - (1 : Int))))
 (((List.getD a
 (Int.toNat
 (IntKind.wrap IntKind.i64
 ((↑(List.length a) : Int) - (1 : Int))))
 (Ty.dflt t56)).fst.fst,
 (List.getD x.fst (Int.toNat a_2)
 (Ty.dflt t36)).snd.fst,
 ()),
 (List.getD a
 (Int.toNat
 (IntKind.wrap IntKind.i64
 ((↑(List.length a) : Int) - (1 : Int))))
 (Ty.dflt t56)).snd))
 (Int.toNat
 (IntKind.wrap IntKind.i64
 ((↑(List.length a) : Int) - (1 : Int))))
 (Ty.dflt t56)).fst,
 ((List.getD
 (List.set a
 (Int.toNat
 (IntKind.wrap IntKind.i64
 ((↑(List.length a) : Int) - (1 : Int))))
 (((List.getD a
 (Int.toNat
 (IntKind.wrap IntKind.i64
 ((↑(List.length a) : Int) -
 (1 : Int))))
 (Ty.dflt t56)).fst.fst,
 (List.getD x.fst (Int.toNat a_2)
 (Ty.dflt t36)).snd.fst,
 ()),
 (List.getD a
 (Int.toNat
 (IntKind.wrap IntKind.i64
 ((↑(List.length a) : Int) -
 (1 : Int))))
 (Ty.dflt t56)).snd))
 (Int.toNat
 (IntKind.wrap IntKind.i64
 ((↑(List.length a) : Int) - (1 : Int))))
 (Ty.dflt t56)).snd.fst.fst,
 IntKind.wrap IntKind.i64
 (IntKind.wrap IntKind.i64
 ((List.getD x.fst (Int.toNat a_2)
 (Ty.dflt t36)).fst +
 a_1) +
 (↑(List.length
 (decodeL
 (List.getD x.fst (Int.toNat a_2)
 (Ty.dflt t36)).snd.snd.fst)) :
 Int)),
 ()),
 ()),
 IntKind.wrap IntKind.i64
 (a_1 +
 IntKind.wrap IntKind.i64
 ((↑(List.length
 (decodeL
 (List.getD x.fst (Int.toNat a_2)
 (Ty.dflt t36)).snd.snd.fst)) :
 Int) -
 IntKind.wrap IntKind.i64
 ((List.getD x.fst (Int.toNat a_2)
 (Ty.dflt t36)).snd.fst -
 (List.getD x.fst (Int.toNat a_2)
 (Ty.dflt t36)).fst))),
 IntKind.wrap IntKind.i64 (a_2 + (1 : Int)), ()) <
 μ (a, a_1, a_2, ())) ∧
 (((List.getD a
 (Int.toNat
 (IntKind.wrap IntKind.i64
 ((↑(List.length a) : Int) - (1 : Int))))
 (Ty.dflt t56)).fst.snd.fst ==
 (List.getD x.fst (Int.toNat a_2) (Ty.dflt t36)).fst) =
 false →
 (List.length a +
 List.length
 [(((List.getD x.fst (Int.toNat a_2) (Ty.dflt t36)).fst,
 (List.getD x.fst (Int.toNat a_2) (Ty.dflt t36)).snd.fst, ()),
 (IntKind.wrap IntKind.i64
 ((List.getD x.fst (Int.toNat a_2) (Ty.dflt t36)).fst + a_1),
 IntKind.wrap IntKind.i64
 (IntKind.wrap IntKind.i64
 ((List.getD x.fst (Int.toNat a_2) (Ty.dflt t36)).fst +
 a_1) +
 (↑(List.length
 (decodeL
 (List.getD x.fst (Int.toNat a_2)
 (Ty.dflt t36)).snd.snd.fst)) :
 Int)),
 ()),
 ())]) *
 (32 : Nat) ≤
 (140737488355328 : Nat) ∧
 List.length a +
 List.length
 [(((List.getD x.fst (Int.toNat a_2) (Ty.dflt t36)).fst,
 (List.getD x.fst (Int.toNat a_2) (Ty.dflt t36)).snd.fst, ()),
 (IntKind.wrap IntKind.i64
 ((List.getD x.fst (Int.toNat a_2) (Ty.dflt t36)).fst + a_1),
 IntKind.wrap IntKind.i64
 (IntKind.wrap IntKind.i64
 ((List.getD x.fst (Int.toNat a_2) (Ty.dflt t36)).fst +
 a_1) +
 (↑(List.length
 (decodeL
 (List.getD x.fst (Int.toNat a_2)
 (Ty.dflt t36)).snd.snd.fst)) :
 Int)),
 ()),
 ())] ≤
 maxLen ∧
 ((IntKind.wrap IntKind.i64 (a_2 + (1 : Int)) =
 IntKind.wrap IntKind.i64 (a_2 + (1 : Int)) ∧
 IntKind.wrap IntKind.i64
 (a_1 +
 IntKind.wrap IntKind.i64
 ((↑(List.length
 (decodeL
 (List.getD x.fst (Int.toNat a_2)
 (Ty.dflt t36)).snd.snd.fst)) :
 Int) -
 IntKind.wrap IntKind.i64
 ((List.getD x.fst (Int.toNat a_2)
 (Ty.dflt t36)).snd.fst -
 (List.getD x.fst (Int.toNat a_2)
 (Ty.dflt t36)).fst))) =
 IntKind.wrap IntKind.i64
 (a_1 +
 IntKind.wrap IntKind.i64
 ((↑(List.length
 (decodeL
 (List.getD x.fst (Int.toNat a_2)
 (Ty.dflt t36)).snd.snd.fst)) :
 Int) -
 IntKind.wrap IntKind.i64
 ((List.getD x.fst (Int.toNat a_2)
 (Ty.dflt t36)).snd.fst -
 (List.getD x.fst (Int.toNat a_2)
 (Ty.dflt t36)).fst))) ∧
 True ∧
 x.fst = x.fst ∧
 (↑(List.length x.fst) : Int) = (↑(List.length x.fst) : Int)) ∧
 a ++
 [(((List.getD x.fst (Int.toNat a_2) (Ty.dflt t36)).fst,
 (List.getD x.fst (Int.toNat a_2) (Ty.dflt t36)).snd.fst,
 ()),
 (IntKind.wrap IntKind.i64
 ((List.getD x.fst (Int.toNat a_2) (Ty.dflt t36)).fst +
 a_1),
 IntKind.wrap IntKind.i64
 (IntKind.wrap IntKind.i64
 ((List.getD x.fst (Int.toNat a_2)
 (Ty.dflt t36)).fst +
 a_1) +
 (↑(List.length
 (decodeL
 (List.getD x.fst (Int.toNat a_2)
 (Ty.dflt t36)).snd.snd.fst)) :
 Int)),
 ()),
 ())] =
 a ++
 [(((List.getD x.fst (Int.toNat a_2) (Ty.dflt t36)).fst,
 (List.getD x.fst (Int.toNat a_2) (Ty.dflt t36)).snd.fst,
 ()),
 (IntKind.wrap IntKind.i64
 ((List.getD x.fst (Int.toNat a_2) (Ty.dflt t36)).fst +
 a_1),
 IntKind.wrap IntKind.i64
 (IntKind.wrap IntKind.i64
 ((List.getD x.fst (Int.toNat a_2)
 (Ty.dflt t36)).fst +
 a_1) +
 (↑(List.length
 (decodeL
 (List.getD x.fst (Int.toNat a_2)
 (Ty.dflt t36)).snd.snd.fst)) :
 Int)),
 ()),
 ())] ∧
 True) ∧
 Z
 (a ++
 [(((List.getD x.fst (Int.toNat a_2) (Ty.dflt t36)).fst,
 (List.getD x.fst (Int.toNat a_2) (Ty.dflt t36)).snd.fst,
 ()),
 (IntKind.wrap IntKind.i64
 ((List.getD x.fst (Int.toNat a_2) (Ty.dflt t36)).fst +
 a_1),
 IntKind.wrap IntKind.i64
 (IntKind.wrap IntKind.i64
 ((List.getD x.fst (Int.toNat a_2)
 (Ty.dflt t36)).fst +
 a_1) +
 (↑(List.length
 (decodeL
 (List.getD x.fst (Int.toNat a_2)
 (Ty.dflt t36)).snd.snd.fst)) :
 Int)),
 ()),
 ())],
 IntKind.wrap IntKind.i64
 (a_1 +
 IntKind.wrap IntKind.i64
 ((↑(List.length
 (decodeL
 (List.getD x.fst (Int.toNat a_2)
 (Ty.dflt t36)).snd.snd.fst)) :
 Int) -
 IntKind.wrap IntKind.i64
 ((List.getD x.fst (Int.toNat a_2)
 (Ty.dflt t36)).snd.fst -
 (List.getD x.fst (Int.toNat a_2)
 (Ty.dflt t36)).fst))),
 IntKind.wrap IntKind.i64 (a_2 + (1 : Int)), ()) ∧
 μ
 (a ++
 [(((List.getD x.fst (Int.toNat a_2) (Ty.dflt t36)).fst,
 (List.getD x.fst (Int.toNat a_2) (Ty.dflt t36)).snd.fst,
 ()),
 (IntKind.wrap IntKind.i64
 ((List.getD x.fst (Int.toNat a_2) (Ty.dflt t36)).fst +
 a_1),
 IntKind.wrap IntKind.i64
 (IntKind.wrap IntKind.i64
 ((List.getD x.fst (Int.toNat a_2)
 (Ty.dflt t36)).fst +
 a_1) +
 (↑(List.length
 (decodeL
 (List.getD x.fst (Int.toNat a_2)
 (Ty.dflt t36)).snd.snd.fst)) :
 Int)),
 ()),
 ())],
 IntKind.wrap IntKind.i64
 (a_1 +
 IntKind.wrap IntKind.i64
 ((↑(List.length
 (decodeL
 (List.getD x.fst (Int.toNat a_2)
 (Ty.dflt t36)).snd.snd.fst)) :
 Int) -
 IntKind.wrap IntKind.i64
 ((List.getD x.fst (Int.toNat a_2)
 (Ty.dflt t36)).snd.fst -
 (List.getD x.fst (Int.toNat a_2)
 (Ty.dflt t36)).fst))),
 IntKind.wrap IntKind.i64 (a_2 + (1 : Int)), ()) <
 μ (a, a_1, a_2, ()))) ∧
 (decide
 (IntKind.wrap IntKind.i64 ((↑(List.length a) : Int) - (1 : Int)) ≥ (0 : Int)) =
 false →
 (List.length a +
 List.length
 [(((List.getD x.fst (Int.toNat a_2) (Ty.dflt t36)).fst,
 (List.getD x.fst (Int.toNat a_2) (Ty.dflt t36)).snd.fst, ()),
 (IntKind.wrap IntKind.i64
 ((List.getD x.fst (Int.toNat a_2) (Ty.dflt t36)).fst + a_1),
 IntKind.wrap IntKind.i64
 (IntKind.wrap IntKind.i64
 ((List.getD x.fst (Int.toNat a_2) (Ty.dflt t36)).fst + a_1) +
 (↑(List.length
 (decodeL
 (List.getD x.fst (Int.toNat a_2)
 (Ty.dflt t36)).snd.snd.fst)) :
 Int)),
 ()),
 ())]) *
 (32 : Nat) ≤
 (140737488355328 : Nat) ∧
 List.length a +
 List.length
 [(((List.getD x.fst (Int.toNat a_2) (Ty.dflt t36)).fst,
 (List.getD x.fst (Int.toNat a_2) (Ty.dflt t36)).snd.fst, ()),
 (IntKind.wrap IntKind.i64
 ((List.getD x.fst (Int.toNat a_2) (Ty.dflt t36)).fst + a_1),
 IntKind.wrap IntKind.i64
 (IntKind.wrap IntKind.i64
 ((List.getD x.fst (Int.toNat a_2) (Ty.dflt t36)).fst + a_1) +
 (↑(List.length
 (decodeL
 (List.getD x.fst (Int.toNat a_2)
 (Ty.dflt t36)).snd.snd.fst)) :
 Int)),
 ()),
 ())] ≤
 maxLen ∧
 ((IntKind.wrap IntKind.i64 (a_2 + (1 : Int)) =
 IntKind.wrap IntKind.i64 (a_2 + (1 : Int)) ∧
 IntKind.wrap IntKind.i64
 (a_1 +
 IntKind.wrap IntKind.i64
 ((↑(List.length
 (decodeL
 (List.getD x.fst (Int.toNat a_2)
 (Ty.dflt t36)).snd.snd.fst)) :
 Int) -
 IntKind.wrap IntKind.i64
 ((List.getD x.fst (Int.toNat a_2) (Ty.dflt t36)).snd.fst -
 (List.getD x.fst (Int.toNat a_2) (Ty.dflt t36)).fst))) =
 IntKind.wrap IntKind.i64
 (a_1 +
 IntKind.wrap IntKind.i64
 ((↑(List.length
 (decodeL
 (List.getD x.fst (Int.toNat a_2)
 (Ty.dflt t36)).snd.snd.fst)) :
 Int) -
 IntKind.wrap IntKind.i64
 ((List.getD x.fst (Int.toNat a_2) (Ty.dflt t36)).snd.fst -
 (List.getD x.fst (Int.toNat a_2) (Ty.dflt t36)).fst))) ∧
 True ∧
 x.fst = x.fst ∧
 (↑(List.length x.fst) : Int) = (↑(List.length x.fst) : Int)) ∧
 a ++
 [(((List.getD x.fst (Int.toNat a_2) (Ty.dflt t36)).fst,
 (List.getD x.fst (Int.toNat a_2) (Ty.dflt t36)).snd.fst, ()),
 (IntKind.wrap IntKind.i64
 ((List.getD x.fst (Int.toNat a_2) (Ty.dflt t36)).fst + a_1),
 IntKind.wrap IntKind.i64
 (IntKind.wrap IntKind.i64
 ((List.getD x.fst (Int.toNat a_2) (Ty.dflt t36)).fst +
 a_1) +
 (↑(List.length
 (decodeL
 (List.getD x.fst (Int.toNat a_2)
 (Ty.dflt t36)).snd.snd.fst)) :
 Int)),
 ()),
 ())] =
 a ++
 [(((List.getD x.fst (Int.toNat a_2) (Ty.dflt t36)).fst,
 (List.getD x.fst (Int.toNat a_2) (Ty.dflt t36)).snd.fst, ()),
 (IntKind.wrap IntKind.i64
 ((List.getD x.fst (Int.toNat a_2) (Ty.dflt t36)).fst + a_1),
 IntKind.wrap IntKind.i64
 (IntKind.wrap IntKind.i64
 ((List.getD x.fst (Int.toNat a_2) (Ty.dflt t36)).fst +
 a_1) +
 (↑(List.length
 (decodeL
 (List.getD x.fst (Int.toNat a_2)
 (Ty.dflt t36)).snd.snd.fst)) :
 Int)),
 ()),
 ())] ∧
 True) ∧
 Z
 (a ++
 [(((List.getD x.fst (Int.toNat a_2) (Ty.dflt t36)).fst,
 (List.getD x.fst (Int.toNat a_2) (Ty.dflt t36)).snd.fst, ()),
 (IntKind.wrap IntKind.i64
 ((List.getD x.fst (Int.toNat a_2) (Ty.dflt t36)).fst + a_1),
 IntKind.wrap IntKind.i64
 (IntKind.wrap IntKind.i64
 ((List.getD x.fst (Int.toNat a_2) (Ty.dflt t36)).fst +
 a_1) +
 (↑(List.length
 (decodeL
 (List.getD x.fst (Int.toNat a_2)
 (Ty.dflt t36)).snd.snd.fst)) :
 Int)),
 ()),
 ())],
 IntKind.wrap IntKind.i64
 (a_1 +
 IntKind.wrap IntKind.i64
 ((↑(List.length
 (decodeL
 (List.getD x.fst (Int.toNat a_2)
 (Ty.dflt t36)).snd.snd.fst)) :
 Int) -
 IntKind.wrap IntKind.i64
 ((List.getD x.fst (Int.toNat a_2) (Ty.dflt t36)).snd.fst -
 (List.getD x.fst (Int.toNat a_2) (Ty.dflt t36)).fst))),
 IntKind.wrap IntKind.i64 (a_2 + (1 : Int)), ()) ∧
 μ
 (a ++
 [(((List.getD x.fst (Int.toNat a_2) (Ty.dflt t36)).fst,
 (List.getD x.fst (Int.toNat a_2) (Ty.dflt t36)).snd.fst, ()),
 (IntKind.wrap IntKind.i64
 ((List.getD x.fst (Int.toNat a_2) (Ty.dflt t36)).fst + a_1),
 IntKind.wrap IntKind.i64
 (IntKind.wrap IntKind.i64
 ((List.getD x.fst (Int.toNat a_2) (Ty.dflt t36)).fst +
 a_1) +
 (↑(List.length
 (decodeL
 (List.getD x.fst (Int.toNat a_2)
 (Ty.dflt t36)).snd.snd.fst)) :
 Int)),
 ()),
 ())],
 IntKind.wrap IntKind.i64
 (a_1 +
 IntKind.wrap IntKind.i64
 ((↑(List.length
 (decodeL
 (List.getD x.fst (Int.toNat a_2)
 (Ty.dflt t36)).snd.snd.fst)) :
 Int) -
 IntKind.wrap IntKind.i64
 ((List.getD x.fst (Int.toNat a_2) (Ty.dflt t36)).snd.fst -
 (List.getD x.fst (Int.toNat a_2) (Ty.dflt t36)).fst))),
 IntKind.wrap IntKind.i64 (a_2 + (1 : Int)), ()) <
 μ (a, a_1, a_2, ())))) ∧
 (decide (a_2 < (↑(List.length x.fst) : Int)) = false → a = (ofAll x.fst).fst)
theorem vcEq17 : fnVC E17 Try.f17 (bodyOf Try.f17) cOf = vc17 := by kernel_rfl
/- fn 19 -/
def hs19 : List (Nat × Nat × Hint) := [(0, 3, ⟨[.rowS 3 900000003 t57 57, .slot 13 t3], [0, 11, 12], [], []⟩),
  (0, 7, ⟨[.slot 6 t3, .slot 24 t3], [0, 3, 5, 11, 12, 13, 22, 23], [5], [98, 900000003]⟩)]
def nm19 : List Nat := []
noncomputable def E19 : Env := env tab [(16, cDecode)] [] noGl hs19 nm19
def vc19 : Prop :=
 ∀ (x : List (Int × Int × ByteArray × Unit) × Unit),
 fair x.fst →
 (((0 : Int) = (0 : Int) ∧
 True ∧ x.fst = x.fst ∧ x.fst = x.fst ∧ (↑(List.length x.fst) : Int) = (↑(List.length x.fst) : Int)) ∧
 True ∧ True) ∧
 ∃ (Z : List Chg × Int × Unit → Prop),
 ∃ (μ : List Chg × Int × Unit → Nat),
 Z ([], (0 : Int), ()) ∧
 ∀ (a : List Chg) (a_1 : Int),
 Z (a, a_1, ()) →
 (decide (a_1 < (↑(List.length x.fst) : Int)) = true →
 ((0 : Int) ≤ a_1 ∧ a_1 < (↑(List.length x.fst) : Int)) ∧
 ((0 : Int) ≤ a_1 ∧ a_1 ≤ (↑(List.length x.fst) : Int)) ∧
 (((0 : Int) = (0 : Int) ∧
 (List.getD x.fst (Int.toNat a_1) (Ty.dflt t36)).fst =
 (List.getD x.fst (Int.toNat a_1) (Ty.dflt t36)).fst ∧
 x.fst = x.fst ∧
 True ∧
 True ∧
 x.fst = x.fst ∧
 (↑(List.length x.fst) : Int) = (↑(List.length x.fst) : Int) ∧
 a_1 = a_1 ∧
 List.take (Int.toNat a_1) x.fst = List.take (Int.toNat a_1) x.fst ∧
 (↑(List.length (List.take (Int.toNat a_1) x.fst)) : Int) =
 (↑(List.length (List.take (Int.toNat a_1) x.fst)) : Int)) ∧
 ((List.getD x.fst (Int.toNat a_1) (Ty.dflt t36)).fst =
 (List.getD x.fst (Int.toNat a_1) (Ty.dflt t36)).fst ∧
 (List.getD x.fst (Int.toNat a_1) (Ty.dflt t36)).snd.fst =
 (List.getD x.fst (Int.toNat a_1) (Ty.dflt t36)).snd.fst ∧
 (List.getD x.fst (Int.toNat a_1) (Ty.dflt t36)).snd.snd.fst =
 (List.getD x.fst (Int.toNat a_1) (Ty.dflt t36)).snd.snd.fst) ∧
 a = a ∧ True) ∧
 ∃ (Z_1 : Int × Int × Unit → Prop),
 ∃ (μ_1 : Int × Int × Unit → Nat),
 Z_1 ((List.getD x.fst (Int.toNat a_1) (Ty.dflt t36)).fst, (0 : Int), ()) ∧
 ∀ (a_4 a_5 : Int),
 Z_1 (a_4, a_5, ()) →
 (decide (a_5 < (↑(List.length (List.take (Int.toNat a_1) x.fst)) : Int)) = true →
 ((0 : Int) ≤ a_5 ∧
 a_5 < (↑(List.length (List.take (Int.toNat a_1) x.fst)) : Int)) ∧
 ByteArray.size
 (List.getD (List.take (Int.toNat a_1) x.fst) (Int.toNat a_5)
 (Ty.dflt t36)).snd.snd.fst ≤
 (1000000000 : Nat) ∧
 ((IntKind.wrap IntKind.i64 (a_5 + (1 : Int)) =
 IntKind.wrap IntKind.i64 (a_5 + (1 : Int)) ∧
 IntKind.wrap IntKind.i64
 (IntKind.wrap IntKind.i64
 (a_4 +
 (↑(List.length
 (decodeL
 (List.getD (List.take (Int.toNat a_1) x.fst)
 (Int.toNat a_5)
 (Ty.dflt t36)).snd.snd.fst)) :
 Int)) -
 IntKind.wrap IntKind.i64
 ((List.getD (List.take (Int.toNat a_1) x.fst)
 (Int.toNat a_5) (Ty.dflt t36)).snd.fst -
 (List.getD (List.take (Int.toNat a_1) x.fst)
 (Int.toNat a_5) (Ty.dflt t36)).fst)) =
 IntKind.wrap IntKind.i64
 (IntKind.wrap IntKind.i64
 (a_4 +
 (↑(List.length
 (decodeL
 (List.getD (List.take (Int.toNat a_1) x.fst)
 (Int.toNat a_5)
 (Ty.dflt t36)).snd.snd.fst)) :
 Int)) -
 IntKind.wrap IntKind.i64
 ((List.getD (List.take (Int.toNat a_1) x.fst)
 (Int.toNat a_5) (Ty.dflt t36)).snd.fst -
 (List.getD (List.take (Int.toNat a_1) x.fst)
 (Int.toNat a_5) (Ty.dflt t36)).fst)) ∧
 x.fst = x.fst ∧
 True ∧
 True ∧
 x.fst = x.fst ∧
 (↑(List.length x.fst) : Int) =
 (↑(List.length x.fst) : Int) ∧
 a_1 = a_1 ∧
 List.take (Int.toNat a_1) x.fst =
 List.take (Int.toNat a_1) x.fst ∧
 (↑(List.length (List.take (Int.toNat a_1) x.fst)) :
 Int) =
 (↑(List.length (List.take (Int.toNat a_1) x.fst)) :
 Int)) ∧
 ((List.getD x.fst (Int.toNat a_1) (Ty.dflt t36)).fst =
 (List.getD x.fst (Int.toNat a_1) (Ty.dflt t36)).fst ∧
 (List.getD x.fst (Int.toNat a_1) (Ty.dflt t36)).snd.fst =
 (List.getD x.fst (Int.toNat a_1) (Ty.dflt t36)).snd.fst ∧
 (List.getD x.fst (Int.toNat a_1) (Ty.dflt t36)).snd.snd.fst =
 (List.getD x.fst (Int.toNat a_1) (Ty.dflt t36)).snd.snd.fst) ∧
 a = a ∧ True) ∧
 Z_1
 (IntKind.wrap IntKind.i64
 (IntKind.wrap IntKind.i64
 (a_4 +
 (↑(List.length
 (decodeL
 (List.getD (List.take (Int.toNat a_1) x.fst)
 (Int.toNat a_5)
 (Ty.dflt t36)).snd.snd.fst)) :
 Int)) -
 IntKind.wrap IntKind.i64
 ((List.getD (List.take (Int.toNat a_1) x.fst) (Int.toNat a_5)
 (Ty.dflt t36)).snd.fst -
 (List.getD (List.take (Int.toNat a_1) x.fst) (Int.toNat a_5)
 (Ty.dflt t36)).fst)),
 IntKind.wrap IntKind.i64 (a_5 + (1 : Int)), ()) ∧
 μ_1
 (IntKind.wrap IntKind.i64
 (IntKind.wrap IntKind.i64
 (a_4 +
 (↑(List.length
 (decodeL
 (List.getD (List.take (Int.toNat a_1) x.fst)
 (Int.toNat a_5)
 (Ty.dflt t36)).snd.snd.fst)) :
 Int)) -
 IntKind.wrap IntKind.i64
 ((List.getD (List.take (Int.toNat a_1) x.fst)
 (Int.toNat a_5) (Ty.dflt t36)).snd.fst -
 (List.getD (List.take (Int.toNat a_1) x.fst)
 (Int.toNat a_5) (Ty.dflt t36)).fst)),
 IntKind.wrap IntKind.i64 (a_5 + (1 : Int)), ()) <
 μ_1 (a_4, a_5, ())) ∧
 (decide (a_5 < (↑(List.length (List.take (Int.toNat a_1) x.fst)) : Int)) = false →
 ByteArray.size (List.getD x.fst (Int.toNat a_1) (Ty.dflt t36)).snd.snd.fst ≤
 (1000000000 : Nat) ∧
 (((↑(List.length
 (decodeL
 (List.getD x.fst (Int.toNat a_1)
 (Ty.dflt t36)).snd.snd.fst)) :
 Int) ==
 (0 : Int)) =
 true →
 (((List.getD x.fst (Int.toNat a_1) (Ty.dflt t36)).fst ==
 (List.getD x.fst (Int.toNat a_1) (Ty.dflt t36)).snd.fst) =
 true →
 ((IntKind.wrap IntKind.i64 (a_1 + (1 : Int)) =
 IntKind.wrap IntKind.i64 (a_1 + (1 : Int)) ∧
 True ∧
 x.fst = x.fst ∧
 x.fst = x.fst ∧
 (↑(List.length x.fst) : Int) =
 (↑(List.length x.fst) : Int)) ∧
 a = a ∧ True) ∧
 Z (a, IntKind.wrap IntKind.i64 (a_1 + (1 : Int)), ()) ∧
 μ (a, IntKind.wrap IntKind.i64 (a_1 + (1 : Int)), ()) <
 μ (a, a_1, ())) ∧
 (((List.getD x.fst (Int.toNat a_1) (Ty.dflt t36)).fst ==
 (List.getD x.fst (Int.toNat a_1) (Ty.dflt t36)).snd.fst) =
 false →
 (decide
 (IntKind.wrap IntKind.i64
 ((↑(List.length a) : Int) - (1 : Int)) ≥
 (0 : Int)) =
 true →
 ((0 : Int) ≤
 IntKind.wrap IntKind.i64
 ((↑(List.length a) : Int) - (1 : Int)) ∧
 IntKind.wrap IntKind.i64
 ((↑(List.length a) : Int) - (1 : Int)) <
 (↑(List.length a) : Int)) ∧
 (((List.getD a
 (Int.toNat
 (IntKind.wrap IntKind.i64
 ((↑(List.length a) : Int) - (1 : Int))))
 (Ty.dflt t57)).fst.snd.fst ==
 (List.getD x.fst (Int.toNat a_1) (Ty.dflt t36)).fst) =
 true →
 ((0 : Int) ≤
 IntKind.wrap IntKind.i64
 ((↑(List.length a) : Int) - (1 : Int)) ∧
 IntKind.wrap IntKind.i64
 ((↑(List.length a) : Int) - (1 : Int)) <
 (↑(List.length a) : Int)) ∧
 ((0 : Int) ≤
 IntKind.wrap IntKind.i64
 ((↑(List.length a) : Int) - (1 : Int)) ∧
 IntKind.wrap IntKind.i64
 ((↑(List.length a) : Int) - (1 : Int)) <
 (↑(List.length
 (List.set a
 (Int.toNat
 (IntKind.wrap IntKind.i64
 ((↑(List.length a) : Int) - (1 : Int))))
 (((List.getD a
 (Int.toNat
 (IntKind.wrap IntKind.i64
 ((↑(List.length a) : Int) -
 (1 : Int))))
 (Ty.dflt t57)).fst.fst,
 (List.getD x.fst (Int.toNat a_1)
 (Ty.dflt t36)).snd.fst,
 ()),
 (List.getD a
 (Int.toNat
 (IntKind.wrap IntKind.i64
 ((↑(List.length a) : Int) -
 (1 : Int))))
 (Ty.dflt t57)).snd))) :
 Int)) ∧
 ((IntKind.wrap IntKind.i64 (a_1 + (1 : Int)) =
 IntKind.wrap IntKind.i64 (a_1 + (1 : Int)) ∧
 True ∧
 x.fst = x.fst ∧
 x.fst = x.fst ∧
 (↑(List.length x.fst) : Int) =
 (↑(List.length x.fst) : Int)) ∧
 List.set
 (List.set a
 (Int.toNat
 (IntKind.wrap IntKind.i64
 ((↑(List.length a) : Int) - (1 : Int))))
 (((List.getD a
 (Int.toNat
 (IntKind.wrap IntKind.i64
 ((↑(List.length a) : Int) -
 (1 : Int))))
 (Ty.dflt t57)).fst.fst,
 (List.getD x.fst (Int.toNat a_1)
 (Ty.dflt t36)).snd.fst,
 ()),
 (List.getD a
 (Int.toNat
 (IntKind.wrap IntKind.i64
 ((↑(List.length a) : Int) -
 (1 : Int))))
 (Ty.dflt t57)).snd))
 (Int.toNat
 (IntKind.wrap IntKind.i64
 ((↑(List.length a) : Int) - (1 : Int))))
 ((List.getD
 (List.set a
 (Int.toNat
 (IntKind.wrap IntKind.i64
 ((↑(List.length a) : Int) -
 (1 : Int))))
 (((List.getD a
 (Int.toNat
 (IntKind.wrap IntKind.i64
 ((↑(List.length a) :
 Int) -
 (1 : Int))))
 (Ty.dflt t57)).fst.fst,
 (List.getD x.fst (Int.toNat a_1)
 (Ty.dflt t36)).snd.fst,
 ()),
 (List.getD a
 (Int.toNat
 (IntKind.wrap IntKind.i64
 ((↑(List.length a) : Int) -
 (1 : Int))))
 (Ty.dflt t57)).snd))
 (Int.toNat
 (IntKind.wrap IntKind.i64
 ((↑(List.length a) : Int) -
 (1 : Int))))
 (Ty.dflt t57)).fst,
 ((List.getD
 (List.set a
 (Int.toNat
 (IntKind.wrap IntKind.i64
 ((↑(List.length a) : Int) -
 (1 : Int))))
 (((List.getD a
 (Int.toNat
 (IntKind.wrap
 IntKind.i64
 ((↑(List.length
 a) :
 Int) -
 (1 : Int))))
 (Ty.dflt
 t57)).fst.fst,
 (List.getD x.fst
 (Int.toNat a_1)
 (Ty.dflt
 t36)).snd.fst,
 ()),
 (List.getD a
 (Int.toNat
 (IntKind.wrap
 IntKind.i64
 ((↑(List.length a) :
 Int) -
 (1 : Int))))
 (Ty.dflt t57)).snd))
 (Int.toNat
 (IntKind.wrap IntKind.i64
 ((↑(List.length a) : Int) -
 (1 : Int))))
 (Ty.dflt t57)).snd.fst.fst,
 IntKind.wrap IntKind.i64
 (a_4 +
 (↑(List.length
 (decodeL
 (List.getD x.fst
 (Int.toNat a_1)
 (Ty.dflt
 t36)).snd.snd.fst)) :
 Int)),
 ()),
 ()) =
 List.set
 (List.set a
 (Int.toNat
 (IntKind.wrap IntKind.i64
 ((↑(List.length a) : Int) - (1 : Int))))
 (((List.getD a
 (Int.toNat
 (IntKind.wrap IntKind.i64
 ((↑(List.length a) : Int) -
 (1 : Int))))
 (Ty.dflt t57)).fst.fst,
 (List.getD x.fst (Int.toNat a_1)
 (Ty.dflt t36)).snd.fst,
 ()),
 (List.getD a
 (Int.toNat
 (IntKind.wrap IntKind.i64
 ((↑(List.length a) : Int) -
 (1 : Int))))
 (Ty.dflt t57)).snd))
 (Int.toNat
 (IntKind.wrap IntKind.i64
 ((↑(List.length a) : Int) - (1 : Int))))
 ((List.getD
 (List.set a
 (Int.toNat
 (IntKind.wrap IntKind.i64
 ((↑(List.length a) : Int) -
 (1 : Int))))
 (((List.getD a
 (Int.toNat
 (IntKind.wrap IntKind.i64
 ((↑(List.length a) :
 Int) -
 (1 : Int))))
 (Ty.dflt t57)).fst.fst,
 (List.getD x.fst (Int.toNat a_1)
 (Ty.dflt t36)).snd.fst,
 ()),
 (List.getD a
 (Int.toNat
 (IntKind.wrap IntKind.i64
 ((↑(List.length a) : Int) -
 (1 : Int))))
 (Ty.dflt t57)).snd))
 (Int.toNat
 (IntKind.wrap IntKind.i64
 ((↑(List.length a) : Int) -
 (1 : Int))))
 (Ty.dflt t57)).fst,
 ((List.getD
 (List.set a
 (Int.toNat
 (IntKind.wrap IntKind.i64
 ((↑(List.length a) : Int) -
 (1 : Int))))
 (((List.getD a
 (Int.toNat
 (IntKind.wrap
 IntKind.i64
 ((↑(List.length
 a) :
 Int) -
 (1 : Int))))
 (Ty.dflt
 t57)).fst.fst,
 (List.getD x.fst
 (Int.toNat a_1)
 (Ty.dflt
 t36)).snd.fst,
 ()),
 (List.getD a
 (Int.toNat
 (IntKind.wrap
 IntKind.i64
 ((↑(List.length a) :
 Int) -
 (1 : Int))))
 (Ty.dflt t57)).snd))
 (Int.toNat
 (IntKind.wrap IntKind.i64
 ((↑(List.length a) : Int) -
 (1 : Int))))
 (Ty.dflt t57)).snd.fst.fst,
 IntKind.wrap IntKind.i64
 (a_4 +
 (↑(List.length
 (decodeL
 (List.getD x.fst
 (Int.toNat a_1)
 (Ty.dflt
 t36)).snd.snd.fst)) :
 Int)),
 ()),
 ()) ∧
 True) ∧
 Z
 (List.set
 (List.set a
 (Int.toNat
 (IntKind.wrap IntKind.i64
 ((↑(List.length a) : Int) - (1 : Int))))
 (((List.getD a
 (Int.toNat
 (IntKind.wrap IntKind.i64
 ((↑(List.length a) : Int) -
 (1 : Int))))
 (Ty.dflt t57)).fst.fst,
 (List.getD x.fst (Int.toNat a_1)
 (Ty.dflt t36)).snd.fst,
 ()),
 (List.getD a
 (Int.toNat
 (IntKind.wrap IntKind.i64
 ((↑(List.length a) : Int) -
 (1 : Int))))
 (Ty.dflt t57)).snd))
 (Int.toNat
 (IntKind.wrap IntKind.i64
 ((↑(List.length a) : Int) - (1 : Int))))
 ((List.getD
 (List.set a
 (Int.toNat
 (IntKind.wrap IntKind.i64
 ((↑(List.length a) : Int) -
 (1 : Int))))
 (((List.getD a
 (Int.toNat
 (IntKind.wrap IntKind.i64
 ((↑(List.length a) :
 Int) -
 (1 : Int))))
 (Ty.dflt t57)).fst.fst,
 (List.getD x.fst (Int.toNat a_1)
 (Ty.dflt t36)).snd.fst,
 ()),
 (List.getD a
 (Int.toNat
 (IntKind.wrap IntKind.i64
 ((↑(List.length a) : Int) -
 (1 : Int))))
 (Ty.dflt t57)).snd))
 (Int.toNat
 (IntKind.wrap IntKind.i64
 ((↑(List.length a) : Int) -
 (1 : Int))))
 (Ty.dflt t57)).fst,
 ((List.getD
 (List.set a
 (Int.toNat
 (IntKind.wrap IntKind.i64
 ((↑(List.length a) : Int) -
 (1 : Int))))
 (((List.getD a
 (Int.toNat
 (IntKind.wrap
 IntKind.i64
 ((↑(List.length
 a) :
 Int) -
 (1 : Int))))
 (Ty.dflt
 t57)).fst.fst,
 (List.getD x.fst
 (Int.toNat a_1)
 (Ty.dflt
 t36)).snd.fst,
 ()),
 (List.getD a
 (Int.toNat
 (IntKind.wrap
 IntKind.i64
 ((↑(List.length a) :
 Int) -
 (1 : Int))))
 (Ty.dflt t57)).snd))
 (Int.toNat
 (IntKind.wrap IntKind.i64
 ((↑(List.length a) : Int) -
 (1 : Int))))
 (Ty.dflt t57)).snd.fst.fst,
 IntKind.wrap IntKind.i64
 (a_4 +
 (↑(List.length
 (decodeL
 (List.getD x.fst
 (Int.toNat a_1)
 (Ty.dflt
 t36)).snd.snd.fst)) :
 Int)),
 ()),
 ()),
 IntKind.wrap IntKind.i64 (a_1 + (1 : Int)),
 ()) ∧
 μ
 (List.set
 (List.set a
 (Int.toNat
 (IntKind.wrap IntKind.i64
 ((↑(List.length a) : Int) -
 (1 : Int))))
 (((List.getD a
 (Int.toNat
 (IntKind.wrap IntKind.i64
 ((↑(List.length a) : Int) -
 (1 : Int))))
 (Ty.dflt t57)).fst.fst,
 (List.getD x.fst (Int.toNat a_1)
 (Ty.dflt t36)).snd.fst,
 ()),
 (List.getD a
 (Int.toNat
 (IntKind.wrap IntKind.i64
 ((↑(List.length a) : Int) -
 (1 : Int))))
 (Ty.dflt t57)).snd))
 (Int.toNat
 (IntKind.wrap IntKind.i64
 ((↑(List.length a) : Int) - (1 : Int))))
 ((List.getD
 (List.set a
 (Int.toNat
 (IntKind.wrap IntKind.i64
 ((↑(List.length a) : Int) -
 (1 : Int))))
 (((List.getD a
 (Int.toNat
 (IntKind.wrap
 IntKind.i64
 ((↑(List.length a) :
 Int) -
 (1 : Int))))
 (Ty.dflt t57)).fst.fst,
 (List.getD x.fst (Int.toNat a_1)
 (Ty.dflt t36)).snd.fst,
 ()),
 (List.getD a
 (Int.toNat
 (IntKind.wrap IntKind.i64
 ((↑(List.length a) :
 Int) -
 (1 : Int))))
 (Ty.dflt t57)).snd))
 (Int.toNat
 (IntKind.wrap IntKind.i64
 ((↑(List.length a) : Int) -
 (1 : Int))))
 (Ty.dflt t57)).fst,
 ((List.getD
 (List.set a
 (Int.toNat
 (IntKind.wrap IntKind.i64
 ((↑(List.length a) :
 Int) -
 (1 : Int))))
 (((List.getD a
 (Int.toNat
 (IntKind.wrap
 IntKind.i64
 ((↑(List.length
 a) :
 Int) -
 (1 : Int))))
 (Ty.dflt
 t57)).fst.fst,
 (List.getD x.fst
 (Int.toNat a_1)
 (Ty.dflt
 t36)).snd.fst,
 ()),
 (List.getD a
 (Int.toNat
 (IntKind.wrap
 IntKind.i64
 ((↑(List.length a) :
 Int) -
 (1 : Int))))
 (Ty.dflt t57)).snd))
 (Int.toNat
 (IntKind.wrap IntKind.i64
 ((↑(List.length a) : Int) -
 (1 : Int))))
 (Ty.dflt t57)).snd.fst.fst,
 IntKind.wrap IntKind.i64
 (a_4 +
 (↑(List.length
 (decodeL
 (List.getD x.fst
 (Int.toNat a_1)
 (Ty.dflt
 t36)).snd.snd.fst)) :
 Int)),
 ()),
 ()),
 IntKind.wrap IntKind.i64 (a_1 + (1 : Int)),
 ()) <
 μ (a, a_1, ())) ∧
 (((List.getD a
 (Int.toNat
 (IntKind.wrap IntKind.i64
 ((↑(List.length a) : Int) - (1 : Int))))
 (Ty.dflt t57)).fst.snd.fst ==
 (List.getD x.fst (Int.toNat a_1) (Ty.dflt t36)).fst) =
 false →
 (List.length a +
 List.length
 [(((List.getD x.fst (Int.toNat a_1)
 (Ty.dflt t36)).fst,
 (List.getD x.fst (Int.toNat a_1)
 (Ty.dflt t36)).snd.fst,
 ()),
 (a_4,
 IntKind.wrap IntKind.i64
 (a_4 +
 (↑(List.length
 (decodeL
 (List.getD x.fst (Int.toNat a_1)
 (Ty.dflt
 t36)).snd.snd.fst)) :
 Int)),
 ()),
 ())]) *
 (32 : Nat) ≤
 (140737488355328 : Nat) ∧
 List.length a +
 List.length
 [(((List.getD x.fst (Int.toNat a_1)
 (Ty.dflt t36)).fst,
 (List.getD x.fst (Int.toNat a_1)
 (Ty.dflt t36)).snd.fst,
 ()),
 (a_4,
 IntKind.wrap IntKind.i64
 (a_4 +
 (↑(List.length
 (decodeL
 (List.getD x.fst (Int.toNat a_1)
 (Ty.dflt
 t36)).snd.snd.fst)) :
 Int)),
 ()),
 ())] ≤
 maxLen ∧
 ((IntKind.wrap IntKind.i64 (a_1 + (1 : Int)) =
 IntKind.wrap IntKind.i64 (a_1 + (1 : Int)) ∧
 True ∧
 x.fst = x.fst ∧
 x.fst = x.fst ∧
 (↑(List.length x.fst) : Int) =
 (↑(List.length x.fst) : Int)) ∧
 a ++
 [(((List.getD x.fst (Int.toNat a_1)
 (Ty.dflt t36)).fst,
 (List.getD x.fst (Int.toNat a_1)
 (Ty.dflt t36)).snd.fst,
 ()),
 (a_4,
 IntKind.wrap IntKind.i64
 (a_4 +
 (↑(List.length
 (decodeL
 (List.getD x.fst
 (Int.toNat a_1)
 (Ty.dflt
 t36)).snd.snd.fst)) :
 Int)),
 ()),
 ())] =
 a ++
 [(((List.getD x.fst (Int.toNat a_1)
 (Ty.dflt t36)).fst,
 (List.getD x.fst (Int.toNat a_1)
 (Ty.dflt t36)).snd.fst,
 ()),
 (a_4,
 IntKind.wrap IntKind.i64
 (a_4 +
 (↑(List.length
 (decodeL
 (List.getD x.fst
 (Int.toNat a_1)
 (Ty.dflt
 t36)).snd.snd.fst)) :
 Int)),
 ()),
 ())] ∧
 True) ∧
 Z
 (a ++
 [(((List.getD x.fst (Int.toNat a_1)
 (Ty.dflt t36)).fst,
 (List.getD x.fst (Int.toNat a_1)
 (Ty.dflt t36)).snd.fst,
 ()),
 (a_4,
 IntKind.wrap IntKind.i64
 (a_4 +
 (↑(List.length
 (decodeL
 (List.getD x.fst
 (Int.toNat a_1)
 (Ty.dflt
 t36)).snd.snd.fst)) :
 Int)),
 ()),
 ())],
 IntKind.wrap IntKind.i64 (a_1 + (1 : Int)),
 ()) ∧
 μ
 (a ++
 [(((List.getD x.fst (Int.toNat a_1)
 (Ty.dflt t36)).fst,
 (List.getD x.fst (Int.toNat a_1)
 (Ty.dflt t36)).snd.fst,
 ()),
 (a_4,
 IntKind.wrap IntKind.i64
 (a_4 +
 (↑(List.length
 (decodeL
 (List.getD x.fst
 (Int.toNat a_1)
 (Ty.dflt
 t36)).snd.snd.fst)) :
 Int)),
 ()),
 ())],
 IntKind.wrap IntKind.i64 (a_1 + (1 : Int)),
 ()) <
 μ (a, a_1, ()))) ∧
 (decide
 (IntKind.wrap IntKind.i64
 ((↑(List.length a) : Int) - (1 : Int)) ≥
 (0 : Int)) =
 false →
 (List.length a +
 List.length
 [(((List.getD x.fst (Int.toNat a_1) (Ty.dflt t36)).fst,
 (List.getD x.fst (Int.toNat a_1)
 (Ty.dflt t36)).snd.fst,
 ()),
 (a_4,
 IntKind.wrap IntKind.i64
 (a_4 +
 (↑(List.length
 (decodeL
 (List.getD x.fst (Int.toNat a_1)
 (Ty.dflt t36)).snd.snd.fst)) :
 Int)),
 ()),
 ())]) *
 (32 : Nat) ≤
 (140737488355328 : Nat) ∧
 List.length a +
 List.length
 [(((List.getD x.fst (Int.toNat a_1) (Ty.dflt t36)).fst,
 (List.getD x.fst (Int.toNat a_1)
 (Ty.dflt t36)).snd.fst,
 ()),
 (a_4,
 IntKind.wrap IntKind.i64
 (a_4 +
 (↑(List.length
 (decodeL
 (List.getD x.fst (Int.toNat a_1)
 (Ty.dflt t36)).snd.snd.fst)) :
 Int)),
 ()),
 ())] ≤
 maxLen ∧
 ((IntKind.wrap IntKind.i64 (a_1 + (1 : Int)) =
 IntKind.wrap IntKind.i64 (a_1 + (1 : Int)) ∧
 True ∧
 x.fst = x.fst ∧
 x.fst = x.fst ∧
 (↑(List.length x.fst) : Int) =
 (↑(List.length x.fst) : Int)) ∧
 a ++
 [(((List.getD x.fst (Int.toNat a_1)
 (Ty.dflt t36)).fst,
 (List.getD x.fst (Int.toNat a_1)
 (Ty.dflt t36)).snd.fst,
 ()),
 (a_4,
 IntKind.wrap IntKind.i64
 (a_4 +
 (↑(List.length
 (decodeL
 (List.getD x.fst (Int.toNat a_1)
 (Ty.dflt
 t36)).snd.snd.fst)) :
 Int)),
 ()),
 ())] =
 a ++
 [(((List.getD x.fst (Int.toNat a_1)
 (Ty.dflt t36)).fst,
 (List.getD x.fst (Int.toNat a_1)
 (Ty.dflt t36)).snd.fst,
 ()),
 (a_4,
 IntKind.wrap IntKind.i64
 (a_4 +
 (↑(List.length
 (decodeL
 (List.getD x.fst (Int.toNat a_1)
 (Ty.dflt
 t36)).snd.snd.fst)) :
 Int)),
 ()),
 ())] ∧
 True) ∧
 Z
 (a ++
 [(((List.getD x.fst (Int.toNat a_1)
 (Ty.dflt t36)).fst,
 (List.getD x.fst (Int.toNat a_1)
 (Ty.dflt t36)).snd.fst,
 ()),
 (a_4,
 IntKind.wrap IntKind.i64
 (a_4 +
 (↑(List.length
 (decodeL
 (List.getD x.fst (Int.toNat a_1)
 (Ty.dflt
 t36)).snd.snd.fst)) :
 Int)),
 ()),
 ())],
 IntKind.wrap IntKind.i64 (a_1 + (1 : Int)), ()) ∧
 μ
 (a ++
 [(((List.getD x.fst (Int.toNat a_1)
 (Ty.dflt t36)).fst,
 (List.getD x.fst (Int.toNat a_1)
 (Ty.dflt t36)).snd.fst,
 ()),
 (a_4,
 IntKind.wrap IntKind.i64
 (a_4 +
 (↑(List.length
 (decodeL
 (List.getD x.fst (Int.toNat a_1)
 (Ty.dflt
 t36)).snd.snd.fst)) :
 Int)),
 ()),
 ())],
 IntKind.wrap IntKind.i64 (a_1 + (1 : Int)), ()) <
 μ (a, a_1, ())))) ∧
 (((↑(List.length
 (decodeL
 (List.getD x.fst (Int.toNat a_1)
 (Ty.dflt t36)).snd.snd.fst)) :
 Int) ==
 (0 : Int)) =
 false →
 (decide
 (IntKind.wrap IntKind.i64 ((↑(List.length a) : Int) - (1 : Int)) ≥
 (0 : Int)) =
 true →
 ((0 : Int) ≤
 IntKind.wrap IntKind.i64
 ((↑(List.length a) : Int) - (1 : Int)) ∧
 IntKind.wrap IntKind.i64 ((↑(List.length a) : Int) - (1 : Int)) <
 (↑(List.length a) : Int)) ∧
 (((List.getD a
 (Int.toNat
 (IntKind.wrap IntKind.i64
 ((↑(List.length a) : Int) - (1 : Int))))
 (Ty.dflt t57)).fst.snd.fst ==
 (List.getD x.fst (Int.toNat a_1) (Ty.dflt t36)).fst) =
 true →
 ((0 : Int) ≤
 IntKind.wrap IntKind.i64
 ((↑(List.length a) : Int) - (1 : Int)) ∧
 IntKind.wrap IntKind.i64
 ((↑(List.length a) : Int) - (1 : Int)) <
 (↑(List.length a) : Int)) ∧
 ((0 : Int) ≤
 IntKind.wrap IntKind.i64
 ((↑(List.length a) : Int) - (1 : Int)) ∧
 IntKind.wrap IntKind.i64
 ((↑(List.length a) : Int) - (1 : Int)) <
 (↑(List.length
 (List.set a
 (Int.toNat
 (IntKind.wrap IntKind.i64
 ((↑(List.length a) : Int) - (1 : Int))))
 (((List.getD a
 (Int.toNat
 (IntKind.wrap IntKind.i64
 ((↑(List.length a) : Int) -
 (1 : Int))))
 (Ty.dflt t57)).fst.fst,
 (List.getD x.fst (Int.toNat a_1)
 (Ty.dflt t36)).snd.fst,
 ()),
 (List.getD a
 (Int.toNat
 (IntKind.wrap IntKind.i64
 ((↑(List.length a) : Int) -
 (1 : Int))))
 (Ty.dflt t57)).snd))) :
 Int)) ∧
 ((IntKind.wrap IntKind.i64 (a_1 + (1 : Int)) =
 IntKind.wrap IntKind.i64 (a_1 + (1 : Int)) ∧
 True ∧
 x.fst = x.fst ∧
 x.fst = x.fst ∧
 (↑(List.length x.fst) : Int) =
 (↑(List.length x.fst) : Int)) ∧
 List.set
 (List.set a
 (Int.toNat
 (IntKind.wrap IntKind.i64
 ((↑(List.length a) : Int) - (1 : Int))))
 (((List.getD a
 (Int.toNat
 (IntKind.wrap IntKind.i64
 ((↑(List.length a) : Int) -
 (1 : Int))))
 (Ty.dflt t57)).fst.fst,
 (List.getD x.fst (Int.toNat a_1)
 (Ty.dflt t36)).snd.fst,
 ()),
 (List.getD a
 (Int.toNat
 (IntKind.wrap IntKind.i64
 ((↑(List.length a) : Int) -
 (1 : Int))))
 (Ty.dflt t57)).snd))
 (Int.toNat
 (IntKind.wrap IntKind.i64
 ((↑(List.length a) : Int) - (1 : Int))))
 ((List.getD
 (List.set a
 (Int.toNat
 (IntKind.wrap IntKind.i64
 ((↑(List.length a) : Int) -
 (1 : Int))))
 (((List.getD a
 (Int.toNat
 (IntKind.wrap IntKind.i64
 ((↑(List.length a) : Int) -
 (1 : Int))))
 (Ty.dflt t57)).fst.fst,
 (List.getD x.fst (Int.toNat a_1)
 (Ty.dflt t36)).snd.fst,
 ()),
 (List.getD a
 (Int.toNat
 (IntKind.wrap IntKind.i64
 ((↑(List.length a) : Int) -
 (1 : Int))))
 (Ty.dflt t57)).snd))
 (Int.toNat
 (IntKind.wrap IntKind.i64
 ((↑(List.length a) : Int) - (1 : Int))))
 (Ty.dflt t57)).fst,
 ((List.getD
 (List.set a
 (Int.toNat
 (IntKind.wrap IntKind.i64
 ((↑(List.length a) : Int) -
 (1 : Int))))
 (((List.getD a
 (Int.toNat
 (IntKind.wrap
 IntKind.i64
 ((↑(List.length a) :
 Int) -
 (1 : Int))))
 (Ty.dflt t57)).fst.fst,
 (List.getD x.fst (Int.toNat a_1)
 (Ty.dflt t36)).snd.fst,
 ()),
 (List.getD a
 (Int.toNat
 (IntKind.wrap IntKind.i64
 ((↑(List.length a) :
 Int) -
 (1 : Int))))
 (Ty.dflt t57)).snd))
 (Int.toNat
 (IntKind.wrap IntKind.i64
 ((↑(List.length a) : Int) -
 (1 : Int))))
 (Ty.dflt t57)).snd.fst.fst,
 IntKind.wrap IntKind.i64
 (a_4 +
 (↑(List.length
 (decodeL
 (List.getD x.fst (Int.toNat a_1)
 (Ty.dflt
 t36)).snd.snd.fst)) :
 Int)),
 ()),
 ()) =
 List.set
 (List.set a
 (Int.toNat
 (IntKind.wrap IntKind.i64
 ((↑(List.length a) : Int) - (1 : Int))))
 (((List.getD a
 (Int.toNat
 (IntKind.wrap IntKind.i64
 ((↑(List.length a) : Int) -
 (1 : Int))))
 (Ty.dflt t57)).fst.fst,
 (List.getD x.fst (Int.toNat a_1)
 (Ty.dflt t36)).snd.fst,
 ()),
 (List.getD a
 (Int.toNat
 (IntKind.wrap IntKind.i64
 ((↑(List.length a) : Int) -
 (1 : Int))))
 (Ty.dflt t57)).snd))
 (Int.toNat
 (IntKind.wrap IntKind.i64
 ((↑(List.length a) : Int) - (1 : Int))))
 ((List.getD
 (List.set a
 (Int.toNat
 (IntKind.wrap IntKind.i64
 ((↑(List.length a) : Int) -
 (1 : Int))))
 (((List.getD a
 (Int.toNat
 (IntKind.wrap IntKind.i64
 ((↑(List.length a) : Int) -
 (1 : Int))))
 (Ty.dflt t57)).fst.fst,
 (List.getD x.fst (Int.toNat a_1)
 (Ty.dflt t36)).snd.fst,
 ()),
 (List.getD a
 (Int.toNat
 (IntKind.wrap IntKind.i64
 ((↑(List.length a) : Int) -
 (1 : Int))))
 (Ty.dflt t57)).snd))
 (Int.toNat
 (IntKind.wrap IntKind.i64
 ((↑(List.length a) : Int) - (1 : Int))))
 (Ty.dflt t57)).fst,
 ((List.getD
 (List.set a
 (Int.toNat
 (IntKind.wrap IntKind.i64
 ((↑(List.length a) : Int) -
 (1 : Int))))
 (((List.getD a
 (Int.toNat
 (IntKind.wrap
 IntKind.i64
 ((↑(List.length a) :
 Int) -
 (1 : Int))))
 (Ty.dflt t57)).fst.fst,
 (List.getD x.fst (Int.toNat a_1)
 (Ty.dflt t36)).snd.fst,
 ()),
 (List.getD a
 (Int.toNat
 (IntKind.wrap IntKind.i64
 ((↑(List.length a) :
 Int) -
 (1 : Int))))
 (Ty.dflt t57)).snd))
 (Int.toNat
 (IntKind.wrap IntKind.i64
 ((↑(List.length a) : Int) -
 (1 : Int))))
 (Ty.dflt t57)).snd.fst.fst,
 IntKind.wrap IntKind.i64
 (a_4 +
 (↑(List.length
 (decodeL
 (List.getD x.fst (Int.toNat a_1)
 (Ty.dflt
 t36)).snd.snd.fst)) :
 Int)),
 ()),
 ()) ∧
 True) ∧
 Z
 (List.set
 (List.set a
 (Int.toNat
 (IntKind.wrap IntKind.i64
 ((↑(List.length a) : Int) - (1 : Int))))
 (((List.getD a
 (Int.toNat
 (IntKind.wrap IntKind.i64
 ((↑(List.length a) : Int) -
 (1 : Int))))
 (Ty.dflt t57)).fst.fst,
 (List.getD x.fst (Int.toNat a_1)
 (Ty.dflt t36)).snd.fst,
 ()),
 (List.getD a
 (Int.toNat
 (IntKind.wrap IntKind.i64
 ((↑(List.length a) : Int) -
 (1 : Int))))
 (Ty.dflt t57)).snd))
 (Int.toNat
 (IntKind.wrap IntKind.i64
 ((↑(List.length a) : Int) - (1 : Int))))
 ((List.getD
 (List.set a
 (Int.toNat
 (IntKind.wrap IntKind.i64
 ((↑(List.length a) : Int) -
 (1 : Int))))
 (((List.getD a
 (Int.toNat
 (IntKind.wrap IntKind.i64
 ((↑(List.length a) : Int) -
 (1 : Int))))
 (Ty.dflt t57)).fst.fst,
 (List.getD x.fst (Int.toNat a_1)
 (Ty.dflt t36)).snd.fst,
 ()),
 (List.getD a
 (Int.toNat
 (IntKind.wrap IntKind.i64
 ((↑(List.length a) : Int) -
 (1 : Int))))
 (Ty.dflt t57)).snd))
 (Int.toNat
 (IntKind.wrap IntKind.i64
 ((↑(List.length a) : Int) - (1 : Int))))
 (Ty.dflt t57)).fst,
 ((List.getD
 (List.set a
 (Int.toNat
 (IntKind.wrap IntKind.i64
 ((↑(List.length a) : Int) -
 (1 : Int))))
 (((List.getD a
 (Int.toNat
 (IntKind.wrap
 IntKind.i64
 ((↑(List.length a) :
 Int) -
 (1 : Int))))
 (Ty.dflt t57)).fst.fst,
 (List.getD x.fst (Int.toNat a_1)
 (Ty.dflt t36)).snd.fst,
 ()),
 (List.getD a
 (Int.toNat
 (IntKind.wrap IntKind.i64
 ((↑(List.length a) :
 Int) -
 (1 : Int))))
 (Ty.dflt t57)).snd))
 (Int.toNat
 (IntKind.wrap IntKind.i64
 ((↑(List.length a) : Int) -
 (1 : Int))))
 (Ty.dflt t57)).snd.fst.fst,
 IntKind.wrap IntKind.i64
 (a_4 +
 (↑(List.length
 (decodeL
 (List.getD x.fst (Int.toNat a_1)
 (Ty.dflt
 t36)).snd.snd.fst)) :
 Int)),
 ()),
 ()),
 IntKind.wrap IntKind.i64 (a_1 + (1 : Int)), ()) ∧
 μ
 (List.set
 (List.set a
 (Int.toNat
 (IntKind.wrap IntKind.i64
 ((↑(List.length a) : Int) - (1 : Int))))
 (((List.getD a
 (Int.toNat
 (IntKind.wrap IntKind.i64
 ((↑(List.length a) : Int) -
 (1 : Int))))
 (Ty.dflt t57)).fst.fst,
 (List.getD x.fst (Int.toNat a_1)
 (Ty.dflt t36)).snd.fst,
 ()),
 (List.getD a
 (Int.toNat
 (IntKind.wrap IntKind.i64
 ((↑(List.length a) : Int) -
 (1 : Int))))
 (Ty.dflt t57)).snd))
 (Int.toNat
 (IntKind.wrap IntKind.i64
 ((↑(List.length a) : Int) - (1 : Int))))
 ((List.getD
 (List.set a
 (Int.toNat
 (IntKind.wrap IntKind.i64
 ((↑(List.length a) : Int) -
 (1 : Int))))
 (((List.getD a
 (Int.toNat
 (IntKind.wrap IntKind.i64
 ((↑(List.length a) :
 Int) -
 (1 : Int))))
 (Ty.dflt t57)).fst.fst,
 (List.getD x.fst (Int.toNat a_1)
 (Ty.dflt t36)).snd.fst,
 ()),
 (List.getD a
 (Int.toNat
 (IntKind.wrap IntKind.i64
 ((↑(List.length a) : Int) -
 (1 : Int))))
 (Ty.dflt t57)).snd))
 (Int.toNat
 (IntKind.wrap IntKind.i64
 ((↑(List.length a) : Int) -
 (1 : Int))))
 (Ty.dflt t57)).fst,
 ((List.getD
 (List.set a
 (Int.toNat
 (IntKind.wrap IntKind.i64
 ((↑(List.length a) : Int) -
 (1 : Int))))
 (((List.getD a
 (Int.toNat
 (IntKind.wrap
 IntKind.i64
 ((↑(List.length a) :
 Int) -
 (1 : Int))))
 (Ty.dflt t57)).fst.fst,
 (List.getD x.fst
 (Int.toNat a_1)
 (Ty.dflt t36)).snd.fst,
 ()),
 (List.getD a
 (Int.toNat
 (IntKind.wrap IntKind.i64
 ((↑(List.length a) :
 Int) -
 (1 : Int))))
 (Ty.dflt t57)).snd))
 (Int.toNat
 (IntKind.wrap IntKind.i64
 ((↑(List.length a) : Int) -
 (1 : Int))))
 (Ty.dflt t57)).snd.fst.fst,
 IntKind.wrap IntKind.i64
 (a_4 +
 (↑(List.length
 (decodeL
 (List.getD x.fst (Int.toNat a_1)
 (Ty.dflt
 t36)).snd.snd.fst)) :
 Int)),
 ()),
 ()),
 IntKind.wrap IntKind.i64 (a_1 + (1 : Int)), ()) <
 μ (a, a_1, ())) ∧
 (((List.getD a
 (Int.toNat
 (IntKind.wrap IntKind.i64
 ((↑(List.length a) : Int) - (1 : Int))))
 (Ty.dflt t57)).fst.snd.fst ==
 (List.getD x.fst (Int.toNat a_1) (Ty.dflt t36)).fst) =
 false →
 (List.length a +
 List.length
 [(((List.getD x.fst (Int.toNat a_1)
 (Ty.dflt t36)).fst,
 (List.getD x.fst (Int.toNat a_1)
 (Ty.dflt t36)).snd.fst,
 ()),
 (a_4,
 IntKind.wrap IntKind.i64
 (a_4 +
 (↑(List.length
 (decodeL
 (List.getD x.fst (Int.toNat a_1)
 (Ty.dflt
 t36)).snd.snd.fst)) :
 Int)),
 ()),
 ())]) *
 (32 : Nat) ≤
 (140737488355328 : Nat) ∧
 List.length a +
 List.length
 [(((List.getD x.fst (Int.toNat a_1)
 (Ty.dflt t36)).fst,
 (List.getD x.fst (Int.toNat a_1)
 (Ty.dflt t36)).snd.fst,
 ()),
 (a_4,
 IntKind.wrap IntKind.i64
 (a_4 +
 (↑(List.length
 (decodeL
 (List.getD x.fst (Int.toNat a_1)
 (Ty.dflt
 t36)).snd.snd.fst)) :
 Int)),
 ()),
 ())] ≤
 maxLen ∧
 ((IntKind.wrap IntKind.i64 (a_1 + (1 : Int)) =
 IntKind.wrap IntKind.i64 (a_1 + (1 : Int)) ∧
 True ∧
 x.fst = x.fst ∧
 x.fst = x.fst ∧
 (↑(List.length x.fst) : Int) =
 (↑(List.length x.fst) : Int)) ∧
 a ++
 [(((List.getD x.fst (Int.toNat a_1)
 (Ty.dflt t36)).fst,
 (List.getD x.fst (Int.toNat a_1)
 (Ty.dflt t36)).snd.fst,
 ()),
 (a_4,
 IntKind.wrap IntKind.i64
 (a_4 +
 (↑(List.length
 (decodeL
 (List.getD x.fst (Int.toNat a_1)
 (Ty.dflt
 t36)).snd.snd.fst)) :
 Int)),
 ()),
 ())] =
 a ++
 [(((List.getD x.fst (Int.toNat a_1)
 (Ty.dflt t36)).fst,
 (List.getD x.fst (Int.toNat a_1)
 (Ty.dflt t36)).snd.fst,
 ()),
 (a_4,
 IntKind.wrap IntKind.i64
 (a_4 +
 (↑(List.length
 (decodeL
 (List.getD x.fst (Int.toNat a_1)
 (Ty.dflt
 t36)).snd.snd.fst)) :
 Int)),
 ()),
 ())] ∧
 True) ∧
 Z
 (a ++
 [(((List.getD x.fst (Int.toNat a_1)
 (Ty.dflt t36)).fst,
 (List.getD x.fst (Int.toNat a_1)
 (Ty.dflt t36)).snd.fst,
 ()),
 (a_4,
 IntKind.wrap IntKind.i64
 (a_4 +
 (↑(List.length
 (decodeL
 (List.getD x.fst (Int.toNat a_1)
 (Ty.dflt
 t36)).snd.snd.fst)) :
 Int)),
 ()),
 ())],
 IntKind.wrap IntKind.i64 (a_1 + (1 : Int)), ()) ∧
 μ
 (a ++
 [(((List.getD x.fst (Int.toNat a_1)
 (Ty.dflt t36)).fst,
 (List.getD x.fst (Int.toNat a_1)
 (Ty.dflt t36)).snd.fst,
 ()),
 (a_4,
 IntKind.wrap IntKind.i64
 (a_4 +
 (↑(List.length
 (decodeL
 (List.getD x.fst
 (Int.toNat a_1)
 (Ty.dflt
 t36)).snd.snd.fst)) :
 Int)),
 ()),
 ())],
 IntKind.wrap IntKind.i64 (a_1 + (1 : Int)), ()) <
 μ (a, a_1, ()))) ∧
 (decide
 (IntKind.wrap IntKind.i64 ((↑(List.length a) : Int) - (1 : Int)) ≥
 (0 : Int)) =
 false →
 (List.length a +
 List.length
 [(((List.getD x.fst (Int.toNat a_1) (Ty.dflt t36)).fst,
 (List.getD x.fst (Int.toNat a_1)
 (Ty.dflt t36)).snd.fst,
 ()),
 (a_4,
 IntKind.wrap IntKind.i64
 (a_4 +
 (↑(List.length
 (decodeL
 (List.getD x.fst (Int.toNat a_1)
 (Ty.dflt t36)).snd.snd.fst)) :
 Int)),
 ()),
 ())]) *
 (32 : Nat) ≤
 (140737488355328 : Nat) ∧
 List.length a +
 List.length
 [(((List.getD x.fst (Int.toNat a_1) (Ty.dflt t36)).fst,
 (List.getD x.fst (Int.toNat a_1)
 (Ty.dflt t36)).snd.fst,
 ()),
 (a_4,
 IntKind.wrap IntKind.i64
 (a_4 +
 (↑(List.length
 (decodeL
 (List.getD x.fst (Int.toNat a_1)
 (Ty.dflt t36)).snd.snd.fst)) :
 Int)),
 ()),
 ())] ≤
 maxLen ∧
 ((IntKind.wrap IntKind.i64 (a_1 + (1 : Int)) =
 IntKind.wrap IntKind.i64 (a_1 + (1 : Int)) ∧
 True ∧
 x.fst = x.fst ∧
 x.fst = x.fst ∧
 (↑(List.length x.fst) : Int) =
 (↑(List.length x.fst) : Int)) ∧
 a ++
 [(((List.getD x.fst (Int.toNat a_1) (Ty.dflt t36)).fst,
 (List.getD x.fst (Int.toNat a_1)
 (Ty.dflt t36)).snd.fst,
 ()),
 (a_4,
 IntKind.wrap IntKind.i64
 (a_4 +
 (↑(List.length
 (decodeL
 (List.getD x.fst (Int.toNat a_1)
 (Ty.dflt t36)).snd.snd.fst)) :
 Int)),
 ()),
 ())] =
 a ++
 [(((List.getD x.fst (Int.toNat a_1) (Ty.dflt t36)).fst,
 (List.getD x.fst (Int.toNat a_1)
 (Ty.dflt t36)).snd.fst,
 ()),
 (a_4,
 IntKind.wrap IntKind.i64
 (a_4 +
 (↑(List.length
 (decodeL
 (List.getD x.fst (Int.toNat a_1)
 (Ty.dflt t36)).snd.snd.fst)) :
 Int)),
 ()),
 ())] ∧
 True) ∧
 Z
 (a ++
 [(((List.getD x.fst (Int.toNat a_1) (Ty.dflt t36)).fst,
 (List.getD x.fst (Int.toNat a_1)
 (Ty.dflt t36)).snd.fst,
 ()),
 (a_4,
 IntKind.wrap IntKind.i64
 (a_4 +
 (↑(List.length
 (decodeL
 (List.getD x.fst (Int.toNat a_1)
 (Ty.dflt t36)).snd.snd.fst)) :
 Int)),
 ()),
 ())],
 IntKind.wrap IntKind.i64 (a_1 + (1 : Int)), ()) ∧
 μ
 (a ++
 [(((List.getD x.fst (Int.toNat a_1)
 (Ty.dflt t36)).fst,
 (List.getD x.fst (Int.toNat a_1)
 (Ty.dflt t36)).snd.fst,
 ()),
 (a_4,
 IntKind.wrap IntKind.i64
 (a_4 +
 (↑(List.length
 (decodeL
 (List.getD x.fst (Int.toNat a_1)
 (Ty.dflt
 t36)).snd.snd.fst)) :
 Int)),
 ()),
 ())],
 IntKind.wrap IntKind.i64 (a_1 + (1 : Int)), ()) <
 μ (a, a_1, ()))))) ∧
 (decide (a_1 < (↑(List.length x.fst) : Int)) = false → a = (ofAll x.fst).fst)
theorem vcEq19 : fnVC E19 Try.f19 (bodyOf Try.f19) cRefOf = vc19 := by kernel_rfl
/- fn 29 -/
def hs29 : List (Nat × Nat × Hint) := []
def nm29 : List Nat := []
noncomputable def E29 : Env := env tab [] [] noGl hs29 nm29
def vc29 : Prop :=
 ∀ (x : Int × Int × Int × Unit),
 True →
 (decide (x.snd.fst ≥ (0 : Int)) = true →
 (decide (x.snd.snd.fst ≥ x.snd.fst) = true →
 decide (x.snd.snd.fst ≤ x.fst) = inside x.fst x.snd.fst x.snd.snd.fst) ∧
 (decide (x.snd.snd.fst ≥ x.snd.fst) = false → false = inside x.fst x.snd.fst x.snd.snd.fst)) ∧
 (decide (x.snd.fst ≥ (0 : Int)) = false → false = inside x.fst x.snd.fst x.snd.snd.fst)
theorem vcEq29 : fnVC E29 Try.f29 (bodyOf Try.f29) cInside = vc29 := by kernel_rfl
/- fn 30 -/
def hs30 : List (Nat × Nat × Hint) := [(0, 4, ⟨[.slot 5 t3, .cell 4 0 t21, .cell 4 1 t3], [0, 1, 4], [4], []⟩)]
def nm30 : List Nat := []
noncomputable def E30 : Env := env tab [(38, cNumber), (39, cUSize), (40, cOne)] [] noGl hs30 nm30
def vc30 : Prop :=
 ∀ (x : ByteArray × Int × Unit),
 ByteArray.size x.fst ≤ maxLen →
 (decide (x.snd.fst < (0 : Int)) = true → ((0 : Int), (0 : Int), ()) = uStep x.fst x.snd.fst) ∧
 (decide (x.snd.fst < (0 : Int)) = false →
 (decide (x.snd.fst ≥ (↑(ByteArray.size x.fst) : Int)) = true →
 ((0 : Int), (0 : Int), ()) = uStep x.fst x.snd.fst) ∧
 (decide (x.snd.fst ≥ (↑(ByteArray.size x.fst) : Int)) = false →
 (((1 : Int) = (1 : Int) ∧ x.fst = x.fst ∧ x.snd.fst = x.snd.fst ∧ True) ∧
 (0 : Int) = (0 : Int) ∧ (0 : Int) = (0 : Int)) ∧
 ∃ (Z : Int × Int × Int × Unit → Prop),
 ∃ (μ : Int × Int × Int × Unit → Nat),
 Z ((1 : Int), (0 : Int), (0 : Int), ()) ∧
 ∀ (a a_1 a_2 : Int),
 Z (a, a_1, a_2, ()) →
 (decide (a ≤ (4 : Int)) = true →
 (decide (a ≤ IntKind.wrap IntKind.i64 ((↑(ByteArray.size x.fst) : Int) - x.snd.fst)) =
 true →
 ((0 : Int) ≤ x.snd.fst ∧
 x.snd.fst ≤ IntKind.wrap IntKind.i64 (x.snd.fst + a) ∧
 IntKind.wrap IntKind.i64 (x.snd.fst + a) ≤ (↑(ByteArray.size x.fst) : Int)) ∧
 ((1 : Nat) ≤
 ByteArray.size
 (ByteArray.extract x.fst (Int.toNat x.snd.fst)
 (Int.toNat (IntKind.wrap IntKind.i64 (x.snd.fst + a)))) ∧
 ByteArray.size
 (ByteArray.extract x.fst (Int.toNat x.snd.fst)
 (Int.toNat (IntKind.wrap IntKind.i64 (x.snd.fst + a)))) ≤
 (4 : Nat)) ∧
 True ∧
 ((uSize
 (uNum
 (strBytes
 (ByteArray.extract x.fst (Int.toNat x.snd.fst)
 (Int.toNat (IntKind.wrap IntKind.i64 (x.snd.fst + a)))))) ==
 a) =
 true →
 ((0 : Int) ≤
 uNum
 (strBytes
 (ByteArray.extract x.fst (Int.toNat x.snd.fst)
 (Int.toNat (IntKind.wrap IntKind.i64 (x.snd.fst + a))))) ∧
 uNum
 (strBytes
 (ByteArray.extract x.fst (Int.toNat x.snd.fst)
 (Int.toNat (IntKind.wrap IntKind.i64 (x.snd.fst + a))))) ≤
 (1114111 : Int) ∧
 uSize
 (uNum
 (strBytes
 (ByteArray.extract x.fst (Int.toNat x.snd.fst)
 (Int.toNat (IntKind.wrap IntKind.i64 (x.snd.fst + a)))))) =
 a) ∧
 ((ByteArray.toList
 (bytesOf
 (uBytes
 (uNum
 (strBytes
 (ByteArray.extract x.fst (Int.toNat x.snd.fst)
 (Int.toNat
 (IntKind.wrap IntKind.i64 (x.snd.fst + a))))))
 a)) ==
 ByteArray.toList
 (ByteArray.extract x.fst (Int.toNat x.snd.fst)
 (Int.toNat (IntKind.wrap IntKind.i64 (x.snd.fst + a))))) =
 true →
 (uNum
 (strBytes
 (ByteArray.extract x.fst (Int.toNat x.snd.fst)
 (Int.toNat (IntKind.wrap IntKind.i64 (x.snd.fst + a))))),
 a, ()) =
 uStep x.fst x.snd.fst) ∧
 ((ByteArray.toList
 (bytesOf
 (uBytes
 (uNum
 (strBytes
 (ByteArray.extract x.fst (Int.toNat x.snd.fst)
 (Int.toNat
 (IntKind.wrap IntKind.i64 (x.snd.fst + a))))))
 a)) ==
 ByteArray.toList
 (ByteArray.extract x.fst (Int.toNat x.snd.fst)
 (Int.toNat (IntKind.wrap IntKind.i64 (x.snd.fst + a))))) =
 false →
 ((IntKind.wrap IntKind.i64 (a + (1 : Int)) =
 IntKind.wrap IntKind.i64 (a + (1 : Int)) ∧
 x.fst = x.fst ∧ x.snd.fst = x.snd.fst ∧ True) ∧
 a_1 = a_1 ∧ a_2 = a_2) ∧
 Z (IntKind.wrap IntKind.i64 (a + (1 : Int)), a_1, a_2, ()) ∧
 μ (IntKind.wrap IntKind.i64 (a + (1 : Int)), a_1, a_2, ()) <
 μ (a, a_1, a_2, ()))) ∧
 ((uSize
 (uNum
 (strBytes
 (ByteArray.extract x.fst (Int.toNat x.snd.fst)
 (Int.toNat (IntKind.wrap IntKind.i64 (x.snd.fst + a)))))) ==
 a) =
 false →
 ((IntKind.wrap IntKind.i64 (a + (1 : Int)) =
 IntKind.wrap IntKind.i64 (a + (1 : Int)) ∧
 x.fst = x.fst ∧ x.snd.fst = x.snd.fst ∧ True) ∧
 a_1 = a_1 ∧ a_2 = a_2) ∧
 Z (IntKind.wrap IntKind.i64 (a + (1 : Int)), a_1, a_2, ()) ∧
 μ (IntKind.wrap IntKind.i64 (a + (1 : Int)), a_1, a_2, ()) <
 μ (a, a_1, a_2, ()))) ∧
 (decide (a ≤ IntKind.wrap IntKind.i64 ((↑(ByteArray.size x.fst) : Int) - x.snd.fst)) =
 false →
 ((65533 : Int), (1 : Int), ()) = uStep x.fst x.snd.fst)) ∧
 (decide (a ≤ (4 : Int)) = false → ((65533 : Int), (1 : Int), ()) = uStep x.fst x.snd.fst)))
theorem vcEq30 : fnVC E30 Try.f30 (bodyOf Try.f30) cStep = vc30 := by kernel_rfl
/- fn 31 -/
def hs31 : List (Nat × Nat × Hint) := [(0, 3, ⟨[.slot 3 t3, .pos 5], [5], [5], []⟩)]
def nm31 : List Nat := []
noncomputable def E31 : Env := env tab [] [] noGl hs31 nm31
def vc31 : Prop :=
 ∀ (x : ByteArray × Unit),
 ByteArray.size x.fst ≤ maxLen →
 (((0 : Int) = (0 : Int) ∧ True) ∧ True ∧ x.fst = x.fst ∧ (0 : Nat) = (0 : Nat)) ∧
 ∃ (Z : Int × Nat × Unit → Prop),
 ∃ (μ : Int × Nat × Unit → Nat),
 Z ((0 : Int), (0 : Nat), ()) ∧
 ∀ (a : Int) (a_1 : Nat),
 Z (a, a_1, ()) →
 (decide (a_1 < ByteArray.size x.fst) = true →
 (true = true →
 ((IntKind.wrap IntKind.i64 (a + (1 : Int)) = IntKind.wrap IntKind.i64 (a + (1 : Int)) ∧ True) ∧
 True ∧
 x.fst = x.fst ∧ a_1 + (Utf8.decode x.fst a_1).snd = a_1 + (Utf8.decode x.fst a_1).snd) ∧
 Z (IntKind.wrap IntKind.i64 (a + (1 : Int)), a_1 + (Utf8.decode x.fst a_1).snd, ()) ∧
 μ (IntKind.wrap IntKind.i64 (a + (1 : Int)), a_1 + (Utf8.decode x.fst a_1).snd, ()) <
 μ (a, a_1, ())) ∧
 (true = false → a = (↑(List.length (decodeL x.fst)) : Int))) ∧
 (decide (a_1 < ByteArray.size x.fst) = false →
 (false = true →
 ((IntKind.wrap IntKind.i64 (a + (1 : Int)) = IntKind.wrap IntKind.i64 (a + (1 : Int)) ∧ True) ∧
 True ∧ x.fst = x.fst ∧ a_1 = a_1) ∧
 Z (IntKind.wrap IntKind.i64 (a + (1 : Int)), a_1, ()) ∧
 μ (IntKind.wrap IntKind.i64 (a + (1 : Int)), a_1, ()) < μ (a, a_1, ())) ∧
 (false = false → a = (↑(List.length (decodeL x.fst)) : Int)))
theorem vcEq31 : fnVC E31 Try.f31 (bodyOf Try.f31) cCount = vc31 := by kernel_rfl
/- fn 38 -/
def hs38 : List (Nat × Nat × Hint) := [(0, 11, ⟨[.slot 3 t21, .slot 4 t3], [0], [], []⟩)]
def nm38 : List Nat := []
noncomputable def E38 : Env := env tab [] [] noGl hs38 nm38
def vc38 : Prop :=
 ∀ (x : ByteArray × Unit),
 (1 : Nat) ≤ ByteArray.size x.fst ∧ ByteArray.size x.fst ≤ (4 : Nat) →
 ((0 : Int) ≤ (0 : Int) ∧ (0 : Int) < (↑(ByteArray.size x.fst) : Int)) ∧
 (((↑(ByteArray.size x.fst) : Int) == (1 : Int)) = true →
 IntKind.wrap IntKind.i32 (↑(UInt8.toNat (Option.getD x.fst.data[Int.toNat (0 : Int)]? (0 : UInt8))) : Int) =
 uNum (strBytes x.fst)) ∧
 (((↑(ByteArray.size x.fst) : Int) == (1 : Int)) = false →
 (((↑(ByteArray.size x.fst) : Int) == (2 : Int)) = true →
 ((1 : Int) = (1 : Int) ∧
 IntKind.wrap IntKind.i32
 (IntKind.wrap IntKind.i32
 (↑(UInt8.toNat (Option.getD x.fst.data[Int.toNat (0 : Int)]? (0 : UInt8))) : Int) -
 (192 : Int)) =
 IntKind.wrap IntKind.i32
 (IntKind.wrap IntKind.i32
 (↑(UInt8.toNat (Option.getD x.fst.data[Int.toNat (0 : Int)]? (0 : UInt8))) : Int) -
 (192 : Int)) ∧
 x.fst = x.fst) ∧
 ∃ (Z : Int × Int × Unit → Prop),
 ∃ (μ : Int × Int × Unit → Nat),
 Z
 (IntKind.wrap IntKind.i32
 (IntKind.wrap IntKind.i32
 (↑(UInt8.toNat (Option.getD x.fst.data[Int.toNat (0 : Int)]? (0 : UInt8))) : Int) -
 (192 : Int)),
 (1 : Int), ()) ∧
 ∀ (a a_1 : Int),
 Z (a, a_1, ()) →
 (decide (a_1 < (↑(ByteArray.size x.fst) : Int)) = true →
 ((0 : Int) ≤ a_1 ∧ a_1 < (↑(ByteArray.size x.fst) : Int)) ∧
 (IntKind.wrap IntKind.i64 (a_1 + (1 : Int)) =
 IntKind.wrap IntKind.i64 (a_1 + (1 : Int)) ∧
 IntKind.wrap IntKind.i32
 (IntKind.wrap IntKind.i32
 (IntKind.wrap IntKind.i32 ((64 : Int) * a) +
 IntKind.wrap IntKind.i32
 (↑(UInt8.toNat (Option.getD x.fst.data[Int.toNat a_1]? (0 : UInt8))) :
 Int)) -
 (128 : Int)) =
 IntKind.wrap IntKind.i32
 (IntKind.wrap IntKind.i32
 (IntKind.wrap IntKind.i32 ((64 : Int) * a) +
 IntKind.wrap IntKind.i32
 (↑(UInt8.toNat (Option.getD x.fst.data[Int.toNat a_1]? (0 : UInt8))) :
 Int)) -
 (128 : Int)) ∧
 x.fst = x.fst) ∧
 Z
 (IntKind.wrap IntKind.i32
 (IntKind.wrap IntKind.i32
 (IntKind.wrap IntKind.i32 ((64 : Int) * a) +
 IntKind.wrap IntKind.i32
 (↑(UInt8.toNat (Option.getD x.fst.data[Int.toNat a_1]? (0 : UInt8))) :
 Int)) -
 (128 : Int)),
 IntKind.wrap IntKind.i64 (a_1 + (1 : Int)), ()) ∧
 μ
 (IntKind.wrap IntKind.i32
 (IntKind.wrap IntKind.i32
 (IntKind.wrap IntKind.i32 ((64 : Int) * a) +
 IntKind.wrap IntKind.i32
 (↑(UInt8.toNat
 (Option.getD x.fst.data[Int.toNat a_1]? (0 : UInt8))) :
 Int)) -
 (128 : Int)),
 IntKind.wrap IntKind.i64 (a_1 + (1 : Int)), ()) <
 μ (a, a_1, ())) ∧
 (decide (a_1 < (↑(ByteArray.size x.fst) : Int)) = false → a = uNum (strBytes x.fst))) ∧
 (((↑(ByteArray.size x.fst) : Int) == (2 : Int)) = false →
 (((↑(ByteArray.size x.fst) : Int) == (3 : Int)) = true →
 ((1 : Int) = (1 : Int) ∧
 IntKind.wrap IntKind.i32
 (IntKind.wrap IntKind.i32
 (↑(UInt8.toNat (Option.getD x.fst.data[Int.toNat (0 : Int)]? (0 : UInt8))) : Int) -
 (224 : Int)) =
 IntKind.wrap IntKind.i32
 (IntKind.wrap IntKind.i32
 (↑(UInt8.toNat (Option.getD x.fst.data[Int.toNat (0 : Int)]? (0 : UInt8))) : Int) -
 (224 : Int)) ∧
 x.fst = x.fst) ∧
 ∃ (Z : Int × Int × Unit → Prop),
 ∃ (μ : Int × Int × Unit → Nat),
 Z
 (IntKind.wrap IntKind.i32
 (IntKind.wrap IntKind.i32
 (↑(UInt8.toNat (Option.getD x.fst.data[Int.toNat (0 : Int)]? (0 : UInt8))) : Int) -
 (224 : Int)),
 (1 : Int), ()) ∧
 ∀ (a a_1 : Int),
 Z (a, a_1, ()) →
 (decide (a_1 < (↑(ByteArray.size x.fst) : Int)) = true →
 ((0 : Int) ≤ a_1 ∧ a_1 < (↑(ByteArray.size x.fst) : Int)) ∧
 (IntKind.wrap IntKind.i64 (a_1 + (1 : Int)) =
 IntKind.wrap IntKind.i64 (a_1 + (1 : Int)) ∧
 IntKind.wrap IntKind.i32
 (IntKind.wrap IntKind.i32
 (IntKind.wrap IntKind.i32 ((64 : Int) * a) +
 IntKind.wrap IntKind.i32
 (↑(UInt8.toNat
 (Option.getD x.fst.data[Int.toNat a_1]? (0 : UInt8))) :
 Int)) -
 (128 : Int)) =
 IntKind.wrap IntKind.i32
 (IntKind.wrap IntKind.i32
 (IntKind.wrap IntKind.i32 ((64 : Int) * a) +
 IntKind.wrap IntKind.i32
 (↑(UInt8.toNat
 (Option.getD x.fst.data[Int.toNat a_1]? (0 : UInt8))) :
 Int)) -
 (128 : Int)) ∧
 x.fst = x.fst) ∧
 Z
 (IntKind.wrap IntKind.i32
 (IntKind.wrap IntKind.i32
 (IntKind.wrap IntKind.i32 ((64 : Int) * a) +
 IntKind.wrap IntKind.i32
 (↑(UInt8.toNat
 (Option.getD x.fst.data[Int.toNat a_1]? (0 : UInt8))) :
 Int)) -
 (128 : Int)),
 IntKind.wrap IntKind.i64 (a_1 + (1 : Int)), ()) ∧
 μ
 (IntKind.wrap IntKind.i32
 (IntKind.wrap IntKind.i32
 (IntKind.wrap IntKind.i32 ((64 : Int) * a) +
 IntKind.wrap IntKind.i32
 (↑(UInt8.toNat
 (Option.getD x.fst.data[Int.toNat a_1]? (0 : UInt8))) :
 Int)) -
 (128 : Int)),
 IntKind.wrap IntKind.i64 (a_1 + (1 : Int)), ()) <
 μ (a, a_1, ())) ∧
 (decide (a_1 < (↑(ByteArray.size x.fst) : Int)) = false → a = uNum (strBytes x.fst))) ∧
 (((↑(ByteArray.size x.fst) : Int) == (3 : Int)) = false →
 ((1 : Int) = (1 : Int) ∧
 IntKind.wrap IntKind.i32
 (IntKind.wrap IntKind.i32
 (↑(UInt8.toNat (Option.getD x.fst.data[Int.toNat (0 : Int)]? (0 : UInt8))) : Int) -
 (240 : Int)) =
 IntKind.wrap IntKind.i32
 (IntKind.wrap IntKind.i32
 (↑(UInt8.toNat (Option.getD x.fst.data[Int.toNat (0 : Int)]? (0 : UInt8))) : Int) -
 (240 : Int)) ∧
 x.fst = x.fst) ∧
 ∃ (Z : Int × Int × Unit → Prop),
 ∃ (μ : Int × Int × Unit → Nat),
 Z
 (IntKind.wrap IntKind.i32
 (IntKind.wrap IntKind.i32
 (↑(UInt8.toNat (Option.getD x.fst.data[Int.toNat (0 : Int)]? (0 : UInt8))) : Int) -
 (240 : Int)),
 (1 : Int), ()) ∧
 ∀ (a a_1 : Int),
 Z (a, a_1, ()) →
 (decide (a_1 < (↑(ByteArray.size x.fst) : Int)) = true →
 ((0 : Int) ≤ a_1 ∧ a_1 < (↑(ByteArray.size x.fst) : Int)) ∧
 (IntKind.wrap IntKind.i64 (a_1 + (1 : Int)) =
 IntKind.wrap IntKind.i64 (a_1 + (1 : Int)) ∧
 IntKind.wrap IntKind.i32
 (IntKind.wrap IntKind.i32
 (IntKind.wrap IntKind.i32 ((64 : Int) * a) +
 IntKind.wrap IntKind.i32
 (↑(UInt8.toNat
 (Option.getD x.fst.data[Int.toNat a_1]? (0 : UInt8))) :
 Int)) -
 (128 : Int)) =
 IntKind.wrap IntKind.i32
 (IntKind.wrap IntKind.i32
 (IntKind.wrap IntKind.i32 ((64 : Int) * a) +
 IntKind.wrap IntKind.i32
 (↑(UInt8.toNat
 (Option.getD x.fst.data[Int.toNat a_1]? (0 : UInt8))) :
 Int)) -
 (128 : Int)) ∧
 x.fst = x.fst) ∧
 Z
 (IntKind.wrap IntKind.i32
 (IntKind.wrap IntKind.i32
 (IntKind.wrap IntKind.i32 ((64 : Int) * a) +
 IntKind.wrap IntKind.i32
 (↑(UInt8.toNat
 (Option.getD x.fst.data[Int.toNat a_1]? (0 : UInt8))) :
 Int)) -
 (128 : Int)),
 IntKind.wrap IntKind.i64 (a_1 + (1 : Int)), ()) ∧
 μ
 (IntKind.wrap IntKind.i32
 (IntKind.wrap IntKind.i32
 (IntKind.wrap IntKind.i32 ((64 : Int) * a) +
 IntKind.wrap IntKind.i32
 (↑(UInt8.toNat
 (Option.getD x.fst.data[Int.toNat a_1]? (0 : UInt8))) :
 Int)) -
 (128 : Int)),
 IntKind.wrap IntKind.i64 (a_1 + (1 : Int)), ()) <
 μ (a, a_1, ())) ∧
 (decide (a_1 < (↑(ByteArray.size x.fst) : Int)) = false → a = uNum (strBytes x.fst)))))
theorem vcEq38 : fnVC E38 Try.f38 (bodyOf Try.f38) cNumber = vc38 := by kernel_rfl
/- fn 39 -/
def hs39 : List (Nat × Nat × Hint) := []
def nm39 : List Nat := []
noncomputable def E39 : Env := env tab [] [] noGl hs39 nm39
def vc39 : Prop :=
 ∀ (x : Int × Unit),
 True →
 (decide (x.fst < (0 : Int)) = true → (0 : Int) = uSize x.fst) ∧
 (decide (x.fst < (0 : Int)) = false →
 (decide (x.fst > (1114111 : Int)) = true → (0 : Int) = uSize x.fst) ∧
 (decide (x.fst > (1114111 : Int)) = false →
 (decide (x.fst ≥ (55296 : Int)) = true →
 (decide (x.fst ≤ (57343 : Int)) = true → (0 : Int) = uSize x.fst) ∧
 (decide (x.fst ≤ (57343 : Int)) = false →
 (decide (x.fst < (128 : Int)) = true → (1 : Int) = uSize x.fst) ∧
 (decide (x.fst < (128 : Int)) = false →
 (decide (x.fst < (2048 : Int)) = true → (2 : Int) = uSize x.fst) ∧
 (decide (x.fst < (2048 : Int)) = false →
 (decide (x.fst < (65536 : Int)) = true → (3 : Int) = uSize x.fst) ∧
 (decide (x.fst < (65536 : Int)) = false → (4 : Int) = uSize x.fst))))) ∧
 (decide (x.fst ≥ (55296 : Int)) = false →
 (decide (x.fst < (128 : Int)) = true → (1 : Int) = uSize x.fst) ∧
 (decide (x.fst < (128 : Int)) = false →
 (decide (x.fst < (2048 : Int)) = true → (2 : Int) = uSize x.fst) ∧
 (decide (x.fst < (2048 : Int)) = false →
 (decide (x.fst < (65536 : Int)) = true → (3 : Int) = uSize x.fst) ∧
 (decide (x.fst < (65536 : Int)) = false → (4 : Int) = uSize x.fst))))))
theorem vcEq39 : fnVC E39 Try.f39 (bodyOf Try.f39) cUSize = vc39 := by kernel_rfl
/- fn 40 -/
def hs40 : List (Nat × Nat × Hint) := []
def nm40 : List Nat := []
noncomputable def E40 : Env := env tab [] [] noGl hs40 nm40
def vc40 : Prop :=
 ∀ (x : Int × Int × Unit),
 (0 : Int) ≤ x.fst ∧ x.fst ≤ (1114111 : Int) ∧ uSize x.fst = x.snd.fst →
 ((x.snd.fst == (1 : Int)) = true → bytesOf [IntKind.wrap IntKind.u8 x.fst] = bytesOf (uBytes x.fst x.snd.fst)) ∧
 ((x.snd.fst == (1 : Int)) = false →
 ((x.snd.fst == (2 : Int)) = true →
 (64 : Int) ≠ (0 : Int) ∧
 (64 : Int) ≠ (0 : Int) ∧
 bytesOf
 [IntKind.wrap IntKind.u8
 (IntKind.wrap IntKind.i32 ((192 : Int) + IntKind.wrap IntKind.i32 (Int.tdiv x.fst (64 : Int)))),
 IntKind.wrap IntKind.u8 (IntKind.wrap IntKind.i32 ((128 : Int) + Int.tmod x.fst (64 : Int)))] =
 bytesOf (uBytes x.fst x.snd.fst)) ∧
 ((x.snd.fst == (2 : Int)) = false →
 ((x.snd.fst == (3 : Int)) = true →
 (4096 : Int) ≠ (0 : Int) ∧
 (64 : Int) ≠ (0 : Int) ∧
 (64 : Int) ≠ (0 : Int) ∧
 (64 : Int) ≠ (0 : Int) ∧
 bytesOf
 [IntKind.wrap IntKind.u8
 (IntKind.wrap IntKind.i32
 ((224 : Int) + IntKind.wrap IntKind.i32 (Int.tdiv x.fst (4096 : Int)))),
 IntKind.wrap IntKind.u8
 (IntKind.wrap IntKind.i32
 ((128 : Int) +
 Int.tmod (IntKind.wrap IntKind.i32 (Int.tdiv x.fst (64 : Int))) (64 : Int))),
 IntKind.wrap IntKind.u8
 (IntKind.wrap IntKind.i32 ((128 : Int) + Int.tmod x.fst (64 : Int)))] =
 bytesOf (uBytes x.fst x.snd.fst)) ∧
 ((x.snd.fst == (3 : Int)) = false →
 (262144 : Int) ≠ (0 : Int) ∧
 (4096 : Int) ≠ (0 : Int) ∧
 (64 : Int) ≠ (0 : Int) ∧
 (64 : Int) ≠ (0 : Int) ∧
 (64 : Int) ≠ (0 : Int) ∧
 (64 : Int) ≠ (0 : Int) ∧
 bytesOf
 [IntKind.wrap IntKind.u8
 (IntKind.wrap IntKind.i32
 ((240 : Int) + IntKind.wrap IntKind.i32 (Int.tdiv x.fst (262144 : Int)))),
 IntKind.wrap IntKind.u8
 (IntKind.wrap IntKind.i32
 ((128 : Int) +
 Int.tmod (IntKind.wrap IntKind.i32 (Int.tdiv x.fst (4096 : Int))) (64 : Int))),
 IntKind.wrap IntKind.u8
 (IntKind.wrap IntKind.i32
 ((128 : Int) +
 Int.tmod (IntKind.wrap IntKind.i32 (Int.tdiv x.fst (64 : Int))) (64 : Int))),
 IntKind.wrap IntKind.u8
 (IntKind.wrap IntKind.i32 ((128 : Int) + Int.tmod x.fst (64 : Int)))] =
 bytesOf (uBytes x.fst x.snd.fst))))
theorem vcEq40 : fnVC E40 Try.f40 (bodyOf Try.f40) cOne = vc40 := by kernel_rfl
end Go.Fr.C10
