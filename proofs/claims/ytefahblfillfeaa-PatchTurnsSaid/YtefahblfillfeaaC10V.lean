/-
  Conditions to be proved, function by function, printed by a program. Conditions: none.
-/
import Derived.Test.YtefahblfillfeaaC10A
namespace Go.Fr.C10
open Go Go.Fr Go.Proofs
set_option maxRecDepth 100000

/- fn 3 -/
def hs3 : List (Nat × Nat × Hint) := []
def nm3 : List Nat := []
noncomputable def E3 : Env := env tab [(9, cTwo), (11, cRefs), (10, cNormal), (12, cMap), (13, cNormal), (14, cRefMap)] [] noGl hs3 nm3
def vc3 : Prop :=
 ∀ (x : List Chg × Int × Int × Unit),
 List.length x.fst ≤ maxLen →
 (decide ((↑(List.length x.fst) : Int) > (200 : Int)) = true → True ∧ true = true) ∧
 (decide ((↑(List.length x.fst) : Int) > (200 : Int)) = false →
 List.length x.fst ≤ (1000000000 : Nat) ∧
 List.length x.fst ≤ maxLen ∧
 List.length x.fst ≤ maxLen ∧
 List.length x.fst ≤ maxLen ∧
 ((!Ty.beq t4 (normal x.fst) (normal x.fst)) = true → false = true) ∧
 ((!Ty.beq t4 (normal x.fst) (normal x.fst)) = false →
 ((!normal x.fst) = true →
 (((mapP x.fst x.snd.fst x.snd.snd.fst).snd.fst == (4 : Int)) = true →
 (((mapP x.fst x.snd.fst x.snd.snd.fst).fst == (0 : Int)) = true → True ∧ true = true) ∧
 (((mapP x.fst x.snd.fst x.snd.snd.fst).fst == (0 : Int)) = false → false = true)) ∧
 (((mapP x.fst x.snd.fst x.snd.snd.fst).snd.fst == (4 : Int)) = false → false = true)) ∧
 ((!normal x.fst) = false →
 (decide (x.snd.fst < (0 : Int)) = true →
 (((mapP x.fst x.snd.fst x.snd.snd.fst).snd.fst == (1 : Int)) = true →
 (((mapP x.fst x.snd.fst x.snd.snd.fst).fst == (0 : Int)) = true → True ∧ true = true) ∧
 (((mapP x.fst x.snd.fst x.snd.snd.fst).fst == (0 : Int)) = false → false = true)) ∧
 (((mapP x.fst x.snd.fst x.snd.snd.fst).snd.fst == (1 : Int)) = false → false = true)) ∧
 (decide (x.snd.fst < (0 : Int)) = false →
 (decide (x.snd.fst > (1099511627776 : Int)) = true →
 (((mapP x.fst x.snd.fst x.snd.snd.fst).snd.fst == (1 : Int)) = true →
 (((mapP x.fst x.snd.fst x.snd.snd.fst).fst == (0 : Int)) = true →
 True ∧ true = true) ∧
 (((mapP x.fst x.snd.fst x.snd.snd.fst).fst == (0 : Int)) = false →
 false = true)) ∧
 (((mapP x.fst x.snd.fst x.snd.snd.fst).snd.fst == (1 : Int)) = false →
 false = true)) ∧
 (decide (x.snd.fst > (1099511627776 : Int)) = false →
 ((x.snd.snd.fst != (0 : Int)) = true →
 ((x.snd.snd.fst != (1 : Int)) = true →
 (((mapP x.fst x.snd.fst x.snd.snd.fst).snd.fst == (1 : Int)) = true →
 (((mapP x.fst x.snd.fst x.snd.snd.fst).fst == (0 : Int)) = true →
 True ∧ true = true) ∧
 (((mapP x.fst x.snd.fst x.snd.snd.fst).fst == (0 : Int)) = false →
 false = true)) ∧
 (((mapP x.fst x.snd.fst x.snd.snd.fst).snd.fst == (1 : Int)) = false →
 false = true)) ∧
 ((x.snd.snd.fst != (1 : Int)) = false →
 (((mapP x.fst x.snd.fst x.snd.snd.fst).snd.fst == (0 : Int)) = true →
 List.length x.fst ≤ (1000000000 : Nat) ∧
 (List.length x.fst ≤ maxLen ∧
 normal x.fst = true ∧
 (0 : Ty.den t3) ≤ x.snd.fst ∧
 x.snd.fst ≤ (1099511627776 : Ty.den t3)) ∧
 (((mapP x.fst x.snd.fst x.snd.snd.fst).fst ==
 refMap x.snd.fst x.snd.snd.fst x.fst (0 : Int)) =
 true →
 True ∧ true = true) ∧
 (((mapP x.fst x.snd.fst x.snd.snd.fst).fst ==
 refMap x.snd.fst x.snd.snd.fst x.fst (0 : Int)) =
 false →
 false = true)) ∧
 (((mapP x.fst x.snd.fst x.snd.snd.fst).snd.fst == (0 : Int)) = false →
 false = true))) ∧
 ((x.snd.snd.fst != (0 : Int)) = false →
 (((mapP x.fst x.snd.fst x.snd.snd.fst).snd.fst == (0 : Int)) = true →
 List.length x.fst ≤ (1000000000 : Nat) ∧
 (List.length x.fst ≤ maxLen ∧
 normal x.fst = true ∧
 (0 : Ty.den t3) ≤ x.snd.fst ∧ x.snd.fst ≤ (1099511627776 : Ty.den t3)) ∧
 (((mapP x.fst x.snd.fst x.snd.snd.fst).fst ==
 refMap x.snd.fst x.snd.snd.fst x.fst (0 : Int)) =
 true →
 True ∧ true = true) ∧
 (((mapP x.fst x.snd.fst x.snd.snd.fst).fst ==
 refMap x.snd.fst x.snd.snd.fst x.fst (0 : Int)) =
 false →
 false = true)) ∧
 (((mapP x.fst x.snd.fst x.snd.snd.fst).snd.fst == (0 : Int)) = false →
 false = true)))))))
theorem vcEq3 : fnVC E3 Try.f3 (bodyOf Try.f3) cPatchNormal = vc3 := by kernel_rfl
/- fn 5 -/
def hs5 : List (Nat × Nat × Hint) := []
def nm5 : List Nat := []
noncomputable def E5 : Env := env tab [(9, cTwo), (21, cCompose), (11, cRefs), (10, cNormal), (22, cSmall), (23, cRefCompose), (18, cSame), (13, cNormal), (20, cDelta)] [] noGl hs5 nm5
def vc5 : Prop :=
 ∀
 (x :
 List Chg ×
 List Chg × Unit),
 List.length x.fst ≤ maxLen ∧ List.length x.snd.fst ≤ maxLen →
 (decide ((↑(List.length x.fst) : Int) > (200 : Int)) = true → True ∧ true = true) ∧
 (decide ((↑(List.length x.fst) : Int) > (200 : Int)) = false →
 (decide ((↑(List.length x.snd.fst) : Int) > (200 : Int)) = true → True ∧ true = true) ∧
 (decide ((↑(List.length x.snd.fst) : Int) > (200 : Int)) = false →
 (List.length x.fst ≤ (10000 : Nat) ∧ List.length x.snd.fst ≤ (10000 : Nat)) ∧
 List.length x.fst ≤ (1000000000 : Nat) ∧
 List.length x.fst ≤ maxLen ∧
 ((!normal x.fst) = true →
 (((compose x.fst x.snd.fst).snd.fst == (4 : Int)) = true →
 (((↑(List.length (compose x.fst x.snd.fst).fst) : Int) == (0 : Int)) = true →
 True ∧ true = true) ∧
 (((↑(List.length (compose x.fst x.snd.fst).fst) : Int) == (0 : Int)) = false →
 false = true)) ∧
 (((compose x.fst x.snd.fst).snd.fst == (4 : Int)) = false → false = true)) ∧
 ((!normal x.fst) = false →
 List.length x.snd.fst ≤ (1000000000 : Nat) ∧
 List.length x.snd.fst ≤ maxLen ∧
 ((!normal x.snd.fst) = true →
 (((compose x.fst x.snd.fst).snd.fst == (4 : Int)) = true →
 (((↑(List.length (compose x.fst x.snd.fst).fst) : Int) == (0 : Int)) = true →
 True ∧ true = true) ∧
 (((↑(List.length (compose x.fst x.snd.fst).fst) : Int) == (0 : Int)) = false →
 false = true)) ∧
 (((compose x.fst x.snd.fst).snd.fst == (4 : Int)) = false → false = true)) ∧
 ((!normal x.snd.fst) = false →
 List.length x.fst ≤ maxLen ∧
 ((!small x.fst) = true →
 (((compose x.fst x.snd.fst).snd.fst == (0 : Int)) = true → True ∧ true = true) ∧
 (((compose x.fst x.snd.fst).snd.fst == (0 : Int)) = false →
 (((compose x.fst x.snd.fst).snd.fst == (5 : Int)) = true →
 (((↑(List.length (compose x.fst x.snd.fst).fst) : Int) == (0 : Int)) =
 true →
 True ∧ true = true) ∧
 (((↑(List.length (compose x.fst x.snd.fst).fst) : Int) == (0 : Int)) =
 false →
 false = true)) ∧
 (((compose x.fst x.snd.fst).snd.fst == (5 : Int)) = false → false = true))) ∧
 ((!small x.fst) = false →
 List.length x.snd.fst ≤ maxLen ∧
 ((!small x.snd.fst) = true →
 (((compose x.fst x.snd.fst).snd.fst == (0 : Int)) = true →
 True ∧ true = true) ∧
 (((compose x.fst x.snd.fst).snd.fst == (0 : Int)) = false →
 (((compose x.fst x.snd.fst).snd.fst == (5 : Int)) = true →
 (((↑(List.length (compose x.fst x.snd.fst).fst) : Int) == (0 : Int)) =
 true →
 True ∧ true = true) ∧
 (((↑(List.length (compose x.fst x.snd.fst).fst) : Int) ==
 (0 : Int)) =
 false →
 false = true)) ∧
 (((compose x.fst x.snd.fst).snd.fst == (5 : Int)) = false →
 false = true))) ∧
 ((!small x.snd.fst) = false →
 (((compose x.fst x.snd.fst).snd.fst == (0 : Int)) = true →
 List.length (compose x.fst x.snd.fst).fst ≤ (1000000000 : Nat) ∧
 List.length x.fst ≤ (1000000000 : Nat) ∧
 List.length x.snd.fst ≤ (1000000000 : Nat) ∧
 (List.length x.fst ≤ (60 : Nat) ∧
 List.length x.snd.fst ≤ (60 : Nat) ∧
 normal x.fst = true ∧
 normal x.snd.fst = true ∧
 endOf x.fst ≤ (2000 : Int) ∧
 endOf x.snd.fst ≤ (2000 : Int)) ∧
 (List.length (compose x.fst x.snd.fst).fst ≤ maxLen ∧
 List.length (refCompose x.fst x.snd.fst) ≤ maxLen) ∧
 (decide
 ((compose x.fst x.snd.fst).fst =
 refCompose x.fst x.snd.fst) =
 true →
 List.length (compose x.fst x.snd.fst).fst ≤ maxLen ∧
 (normal (compose x.fst x.snd.fst).fst = true →
 List.length (compose x.fst x.snd.fst).fst ≤ maxLen ∧
 List.length x.fst ≤ maxLen ∧
 List.length x.snd.fst ≤ maxLen ∧
 ((delta (compose x.fst x.snd.fst).fst ==
 IntKind.wrap IntKind.i64
 (delta x.fst + delta x.snd.fst)) =
 true →
 True ∧ true = true) ∧
 ((delta (compose x.fst x.snd.fst).fst ==
 IntKind.wrap IntKind.i64
 (delta x.fst + delta x.snd.fst)) =
 false →
 false = true)) ∧
 (normal (compose x.fst x.snd.fst).fst = false →
 false = true)) ∧
 (decide
 ((compose x.fst x.snd.fst).fst =
 refCompose x.fst x.snd.fst) =
 false →
 false = true)) ∧
 (((compose x.fst x.snd.fst).snd.fst == (0 : Int)) = false →
 false = true)))))))
theorem vcEq5 : fnVC E5 Try.f5 (bodyOf Try.f5) cPatchComposes = vc5 := by kernel_rfl
/- fn 6 -/
def hs6 : List (Nat × Nat × Hint) := []
def nm6 : List Nat := []
noncomputable def E6 : Env := env tab [(22, cSmall), (9, cTwo), (21, cCompose), (11, cRefs), (24, cKept)] [] noGl hs6 nm6
def vc6 : Prop :=
 ∀
 (x :
 List Chg ×
 List Chg × Int × Unit),
 List.length x.fst ≤ maxLen ∧ List.length x.snd.fst ≤ maxLen →
 List.length x.fst ≤ maxLen ∧
 ((!small x.fst) = true → True ∧ true = true) ∧
 ((!small x.fst) = false →
 List.length x.snd.fst ≤ maxLen ∧
 ((!small x.snd.fst) = true → True ∧ true = true) ∧
 ((!small x.snd.fst) = false →
 (decide (x.snd.snd.fst < (0 : Int)) = true → True ∧ true = true) ∧
 (decide (x.snd.snd.fst < (0 : Int)) = false →
 (decide (x.snd.snd.fst > (3000 : Int)) = true → True ∧ true = true) ∧
 (decide (x.snd.snd.fst > (3000 : Int)) = false →
 (List.length x.fst ≤ (10000 : Nat) ∧ List.length x.snd.fst ≤ (10000 : Nat)) ∧
 (((compose x.fst x.snd.fst).snd.fst != (0 : Int)) = true → false = true) ∧
 (((compose x.fst x.snd.fst).snd.fst != (0 : Int)) = false →
 List.length x.fst ≤ (1000000000 : Nat) ∧
 (List.length x.fst ≤ maxLen ∧
 normal x.fst = true ∧
 (0 : Ty.den t3) ≤ x.snd.snd.fst ∧ x.snd.snd.fst ≤ (10995116277760 : Ty.den t3)) ∧
 (decide (kept x.fst x.snd.snd.fst ≥ (0 : Int)) = true →
 List.length x.snd.fst ≤ (1000000000 : Nat) ∧
 (List.length x.snd.fst ≤ maxLen ∧
 normal x.snd.fst = true ∧
 (0 : Ty.den t3) ≤ kept x.fst x.snd.snd.fst ∧
 kept x.fst x.snd.snd.fst ≤ (10995116277760 : Ty.den t3)) ∧
 List.length (compose x.fst x.snd.fst).fst ≤ (1000000000 : Nat) ∧
 (List.length (compose x.fst x.snd.fst).fst ≤ maxLen ∧
 normal (compose x.fst x.snd.fst).fst = true ∧
 (0 : Ty.den t3) ≤ x.snd.snd.fst ∧
 x.snd.snd.fst ≤ (10995116277760 : Ty.den t3)) ∧
 ((kept (compose x.fst x.snd.fst).fst x.snd.snd.fst ==
 kept x.snd.fst (kept x.fst x.snd.snd.fst)) =
 true →
 True ∧ true = true) ∧
 ((kept (compose x.fst x.snd.fst).fst x.snd.snd.fst ==
 kept x.snd.fst (kept x.fst x.snd.snd.fst)) =
 false →
 false = true)) ∧
 (decide (kept x.fst x.snd.snd.fst ≥ (0 : Int)) = false →
 List.length (compose x.fst x.snd.fst).fst ≤ (1000000000 : Nat) ∧
 (List.length (compose x.fst x.snd.fst).fst ≤ maxLen ∧
 normal (compose x.fst x.snd.fst).fst = true ∧
 (0 : Ty.den t3) ≤ x.snd.snd.fst ∧
 x.snd.snd.fst ≤ (10995116277760 : Ty.den t3)) ∧
 ((kept (compose x.fst x.snd.fst).fst x.snd.snd.fst == (-1 : Int)) = true →
 True ∧ true = true) ∧
 ((kept (compose x.fst x.snd.fst).fst x.snd.snd.fst == (-1 : Int)) = false →
 false = true)))))))
theorem vcEq6 : fnVC E6 Try.f6 (bodyOf Try.f6) cPatchBoth = vc6 := by kernel_rfl
/- fn 7 -/
def hs7 : List (Nat × Nat × Hint) := []
def nm7 : List Nat := []
noncomputable def E7 : Env := env tab [(22, cSmall), (9, cTwo), (21, cCompose), (11, cRefs), (18, cSame)] [] noGl hs7 nm7
def vc7 : Prop :=
 ∀
 (x :
 List Chg ×
 List Chg ×
 List Chg × Unit),
 List.length x.fst ≤ maxLen ∧ List.length x.snd.fst ≤ maxLen ∧ List.length x.snd.snd.fst ≤ maxLen →
 List.length x.fst ≤ maxLen ∧
 ((!small x.fst) = true → True ∧ true = true) ∧
 ((!small x.fst) = false →
 List.length x.snd.fst ≤ maxLen ∧
 ((!small x.snd.fst) = true → True ∧ true = true) ∧
 ((!small x.snd.fst) = false →
 List.length x.snd.snd.fst ≤ maxLen ∧
 ((!small x.snd.snd.fst) = true → True ∧ true = true) ∧
 ((!small x.snd.snd.fst) = false →
 (List.length x.fst ≤ (10000 : Nat) ∧ List.length x.snd.fst ≤ (10000 : Nat)) ∧
 (List.length x.snd.fst ≤ (10000 : Nat) ∧ List.length x.snd.snd.fst ≤ (10000 : Nat)) ∧
 (List.length (compose x.fst x.snd.fst).fst ≤ (10000 : Nat) ∧
 List.length x.snd.snd.fst ≤ (10000 : Nat)) ∧
 (List.length x.fst ≤ (10000 : Nat) ∧
 List.length (compose x.snd.fst x.snd.snd.fst).fst ≤ (10000 : Nat)) ∧
 (((compose x.fst x.snd.fst).snd.fst == (0 : Int)) = true →
 (((compose x.snd.fst x.snd.snd.fst).snd.fst == (0 : Int)) = true →
 (((compose (compose x.fst x.snd.fst).fst x.snd.snd.fst).snd.fst == (0 : Int)) =
 true →
 (((compose x.fst (compose x.snd.fst x.snd.snd.fst).fst).snd.fst ==
 (0 : Int)) =
 true →
 List.length (compose (compose x.fst x.snd.fst).fst x.snd.snd.fst).fst ≤
 (1000000000 : Nat) ∧
 List.length (compose x.fst (compose x.snd.fst x.snd.snd.fst).fst).fst ≤
 (1000000000 : Nat) ∧
 (List.length
 (compose (compose x.fst x.snd.fst).fst x.snd.snd.fst).fst ≤
 maxLen ∧
 List.length
 (compose x.fst (compose x.snd.fst x.snd.snd.fst).fst).fst ≤
 maxLen) ∧
 (decide
 ((compose (compose x.fst x.snd.fst).fst x.snd.snd.fst).fst =
 (compose x.fst
 (compose x.snd.fst x.snd.snd.fst).fst).fst) =
 true →
 True ∧ true = true) ∧
 (decide
 ((compose (compose x.fst x.snd.fst).fst x.snd.snd.fst).fst =
 (compose x.fst
 (compose x.snd.fst x.snd.snd.fst).fst).fst) =
 false →
 false = true)) ∧
 (((compose x.fst (compose x.snd.fst x.snd.snd.fst).fst).snd.fst ==
 (0 : Int)) =
 false →
 false = true)) ∧
 (((compose (compose x.fst x.snd.fst).fst x.snd.snd.fst).snd.fst == (0 : Int)) =
 false →
 false = true)) ∧
 (((compose x.snd.fst x.snd.snd.fst).snd.fst == (0 : Int)) = false → false = true)) ∧
 (((compose x.fst x.snd.fst).snd.fst == (0 : Int)) = false → false = true))))
theorem vcEq7 : fnVC E7 Try.f7 (bodyOf Try.f7) cPatchBrackets = vc7 := by kernel_rfl
/- fn 8 -/
def hs8 : List (Nat × Nat × Hint) := []
def nm8 : List Nat := []
noncomputable def E8 : Env := env tab [(22, cSmall), (9, cTwo), (25, cInvert), (21, cCompose), (13, cNormal), (11, cRefs), (18, cSame), (20, cDelta), (24, cKept)] [] noGl hs8 nm8
def vc8 : Prop :=
 ∀ (x : List Chg × Int × Unit),
 List.length x.fst ≤ maxLen →
 List.length x.fst ≤ maxLen ∧
 ((!small x.fst) = true → True ∧ true = true) ∧
 ((!small x.fst) = false →
 (decide (x.snd.fst < (0 : Int)) = true → True ∧ true = true) ∧
 (decide (x.snd.fst < (0 : Int)) = false →
 (decide (x.snd.fst > (3000 : Int)) = true → True ∧ true = true) ∧
 (decide (x.snd.fst > (3000 : Int)) = false →
 List.length x.fst ≤ (1000000000 : Nat) ∧
 (List.length x.fst ≤ (10000 : Nat) ∧ List.length (invert x.fst) ≤ (10000 : Nat)) ∧
 (((compose x.fst (invert x.fst)).snd.fst != (0 : Int)) = true → false = true) ∧
 (((compose x.fst (invert x.fst)).snd.fst != (0 : Int)) = false →
 List.length (invert x.fst) ≤ maxLen ∧
 ((!normal (invert x.fst)) = true → false = true) ∧
 ((!normal (invert x.fst)) = false →
 List.length (invert x.fst) ≤ (1000000000 : Nat) ∧
 List.length (invert (invert x.fst)) ≤ (1000000000 : Nat) ∧
 List.length x.fst ≤ (1000000000 : Nat) ∧
 (List.length (invert (invert x.fst)) ≤ maxLen ∧ List.length x.fst ≤ maxLen) ∧
 ((!decide (invert (invert x.fst) = x.fst)) = true → false = true) ∧
 ((!decide (invert (invert x.fst) = x.fst)) = false →
 List.length (invert x.fst) ≤ maxLen ∧
 List.length x.fst ≤ maxLen ∧
 ((delta (invert x.fst) !=
 IntKind.wrap IntKind.i64 ((0 : Int) - delta x.fst)) =
 true →
 false = true) ∧
 ((delta (invert x.fst) !=
 IntKind.wrap IntKind.i64 ((0 : Int) - delta x.fst)) =
 false →
 List.length x.fst ≤ (1000000000 : Nat) ∧
 (List.length x.fst ≤ maxLen ∧
 normal x.fst = true ∧
 (0 : Ty.den t3) ≤ x.snd.fst ∧
 x.snd.fst ≤ (10995116277760 : Ty.den t3)) ∧
 List.length (compose x.fst (invert x.fst)).fst ≤
 (1000000000 : Nat) ∧
 (List.length (compose x.fst (invert x.fst)).fst ≤ maxLen ∧
 normal (compose x.fst (invert x.fst)).fst = true ∧
 (0 : Ty.den t3) ≤ x.snd.fst ∧
 x.snd.fst ≤ (10995116277760 : Ty.den t3)) ∧
 (Ty.beq t4 (decide (kept x.fst x.snd.fst ≥ (0 : Int)))
 (decide
 (kept (compose x.fst (invert x.fst)).fst
 x.snd.fst ≥
 (0 : Int))) =
 true →
 ((!decide (kept x.fst x.snd.fst ≥ (0 : Int))) = true →
 True ∧ true = true) ∧
 ((!decide (kept x.fst x.snd.fst ≥ (0 : Int))) =
 false →
 ((kept (compose x.fst (invert x.fst)).fst
 x.snd.fst ==
 x.snd.fst) =
 true →
 True ∧ true = true) ∧
 ((kept (compose x.fst (invert x.fst)).fst
 x.snd.fst ==
 x.snd.fst) =
 false →
 false = true))) ∧
 (Ty.beq t4 (decide (kept x.fst x.snd.fst ≥ (0 : Int)))
 (decide
 (kept (compose x.fst (invert x.fst)).fst
 x.snd.fst ≥
 (0 : Int))) =
 false →
 false = true))))))))
theorem vcEq8 : fnVC E8 Try.f8 (bodyOf Try.f8) cPatchTurns = vc8 := by kernel_rfl
/- fn 9 -/
def hs9 : List (Nat × Nat × Hint) := []
def nm9 : List Nat := []
noncomputable def E9 : Env := env tab [(12, cMap), (13, cNormal), (20, cDelta)] [] noGl hs9 nm9
def vc9 : Prop :=
 ∀ (x : Unit),
 True →
 List.length [(((2 : Int), (4 : Int), ()), ((2 : Int), (3 : Int), ()), ())] ≤ maxLen ∧
 List.length [(((2 : Int), (4 : Int), ()), ((2 : Int), (3 : Int), ()), ())] ≤ maxLen ∧
 List.length [(((2 : Int), (4 : Int), ()), ((2 : Int), (3 : Int), ()), ())] ≤ maxLen ∧
 (((mapP [(((2 : Int), (4 : Int), ()), ((2 : Int), (3 : Int), ()), ())] (3 : Int) (0 : Int)).snd.fst ==
 (0 : Int)) =
 true →
 (((mapP [(((2 : Int), (4 : Int), ()), ((2 : Int), (3 : Int), ()), ())] (3 : Int) (1 : Int)).snd.fst ==
 (0 : Int)) =
 true →
 (((mapP [(((2 : Int), (4 : Int), ()), ((2 : Int), (3 : Int), ()), ())] (5 : Int) (0 : Int)).snd.fst ==
 (0 : Int)) =
 true →
 (((mapP [(((2 : Int), (4 : Int), ()), ((2 : Int), (3 : Int), ()), ())] (3 : Int) (0 : Int)).fst ==
 (2 : Int)) =
 true →
 (((mapP [(((2 : Int), (4 : Int), ()), ((2 : Int), (3 : Int), ()), ())] (3 : Int)
 (1 : Int)).fst ==
 (3 : Int)) =
 true →
 (((mapP [(((2 : Int), (4 : Int), ()), ((2 : Int), (3 : Int), ()), ())] (5 : Int)
 (0 : Int)).fst ==
 (4 : Int)) =
 true →
 List.length [(((2 : Int), (4 : Int), ()), ((2 : Int), (3 : Int), ()), ())] ≤ maxLen ∧
 (normal [(((2 : Int), (4 : Int), ()), ((2 : Int), (3 : Int), ()), ())] = true →
 List.length [(((2 : Int), (4 : Int), ()), ((2 : Int), (3 : Int), ()), ())] ≤
 maxLen ∧
 (delta [(((2 : Int), (4 : Int), ()), ((2 : Int), (3 : Int), ()), ())] ==
 (-1 : Int)) =
 true) ∧
 (normal [(((2 : Int), (4 : Int), ()), ((2 : Int), (3 : Int), ()), ())] = false →
 false = true)) ∧
 (((mapP [(((2 : Int), (4 : Int), ()), ((2 : Int), (3 : Int), ()), ())] (5 : Int)
 (0 : Int)).fst ==
 (4 : Int)) =
 false →
 false = true)) ∧
 (((mapP [(((2 : Int), (4 : Int), ()), ((2 : Int), (3 : Int), ()), ())] (3 : Int)
 (1 : Int)).fst ==
 (3 : Int)) =
 false →
 false = true)) ∧
 (((mapP [(((2 : Int), (4 : Int), ()), ((2 : Int), (3 : Int), ()), ())] (3 : Int)
 (0 : Int)).fst ==
 (2 : Int)) =
 false →
 false = true)) ∧
 (((mapP [(((2 : Int), (4 : Int), ()), ((2 : Int), (3 : Int), ()), ())] (5 : Int)
 (0 : Int)).snd.fst ==
 (0 : Int)) =
 false →
 false = true)) ∧
 (((mapP [(((2 : Int), (4 : Int), ()), ((2 : Int), (3 : Int), ()), ())] (3 : Int) (1 : Int)).snd.fst ==
 (0 : Int)) =
 false →
 false = true)) ∧
 (((mapP [(((2 : Int), (4 : Int), ()), ((2 : Int), (3 : Int), ()), ())] (3 : Int) (0 : Int)).snd.fst ==
 (0 : Int)) =
 false →
 false = true)
theorem vcEq9 : fnVC E9 Try.f9 (bodyOf Try.f9) cTwo = vc9 := by kernel_rfl
/- fn 10 -/
def hs10 : List (Nat × Nat × Hint) := [(0, 2, ⟨[.slot 9 t3], [0, 7, 8], [], []⟩)]
def nm10 : List Nat := []
noncomputable def E10 : Env := env tab [(26, cWithin)] [] noGl hs10 nm10
def vc10 : Prop :=
 ∀ (x : List Chg × Unit),
 List.length x.fst ≤ maxLen →
 ((0 : Int) = (0 : Int) ∧
 x.fst = x.fst ∧ x.fst = x.fst ∧ (↑(List.length x.fst) : Int) = (↑(List.length x.fst) : Int)) ∧
 ∃ (Z : Int × Unit → Prop),
 ∃ (μ : Int × Unit → Nat),
 Z ((0 : Int), ()) ∧
 ∀ (a : Int),
 Z (a, ()) →
 (decide (a < (↑(List.length x.fst) : Int)) = true →
 ((0 : Int) ≤ a ∧ a < (↑(List.length x.fst) : Int)) ∧
 True ∧
 ((!within (List.getD x.fst (Int.toNat a) (Ty.dflt t56)).fst) = true → false = normal x.fst) ∧
 ((!within (List.getD x.fst (Int.toNat a) (Ty.dflt t56)).fst) = false →
 True ∧
 ((!within (List.getD x.fst (Int.toNat a) (Ty.dflt t56)).snd.fst) = true →
 false = normal x.fst) ∧
 ((!within (List.getD x.fst (Int.toNat a) (Ty.dflt t56)).snd.fst) = false →
 (((List.getD x.fst (Int.toNat a) (Ty.dflt t56)).fst.fst ==
 (List.getD x.fst (Int.toNat a) (Ty.dflt t56)).fst.snd.fst) =
 true →
 (((List.getD x.fst (Int.toNat a) (Ty.dflt t56)).snd.fst.fst ==
 (List.getD x.fst (Int.toNat a) (Ty.dflt t56)).snd.fst.snd.fst) =
 true →
 false = normal x.fst) ∧
 (((List.getD x.fst (Int.toNat a) (Ty.dflt t56)).snd.fst.fst ==
 (List.getD x.fst (Int.toNat a) (Ty.dflt t56)).snd.fst.snd.fst) =
 false →
 (decide (a > (0 : Int)) = true →
 ((0 : Int) ≤ IntKind.wrap IntKind.i64 (a - (1 : Int)) ∧
 IntKind.wrap IntKind.i64 (a - (1 : Int)) <
 (↑(List.length x.fst) : Int)) ∧
 (decide
 (IntKind.wrap IntKind.i64
 ((List.getD x.fst (Int.toNat a) (Ty.dflt t56)).fst.fst -
 (List.getD x.fst
 (Int.toNat
 (IntKind.wrap IntKind.i64 (a - (1 : Int))))
 (Ty.dflt t56)).fst.snd.fst) <
 (0 : Int)) =
 true →
 false = normal x.fst) ∧
 (decide
 (IntKind.wrap IntKind.i64
 ((List.getD x.fst (Int.toNat a) (Ty.dflt t56)).fst.fst -
 (List.getD x.fst
 (Int.toNat
 (IntKind.wrap IntKind.i64 (a - (1 : Int))))
 (Ty.dflt t56)).fst.snd.fst) <
 (0 : Int)) =
 false →
 ((IntKind.wrap IntKind.i64
 ((List.getD x.fst (Int.toNat a) (Ty.dflt t56)).fst.fst -
 (List.getD x.fst
 (Int.toNat
 (IntKind.wrap IntKind.i64 (a - (1 : Int))))
 (Ty.dflt t56)).fst.snd.fst) !=
 IntKind.wrap IntKind.i64
 ((List.getD x.fst (Int.toNat a)
 (Ty.dflt t56)).snd.fst.fst -
 (List.getD x.fst
 (Int.toNat
 (IntKind.wrap IntKind.i64 (a - (1 : Int))))
 (Ty.dflt t56)).snd.fst.snd.fst)) =
 true →
 false = normal x.fst) ∧
 ((IntKind.wrap IntKind.i64
 ((List.getD x.fst (Int.toNat a) (Ty.dflt t56)).fst.fst -
 (List.getD x.fst
 (Int.toNat
 (IntKind.wrap IntKind.i64 (a - (1 : Int))))
 (Ty.dflt t56)).fst.snd.fst) !=
 IntKind.wrap IntKind.i64
 ((List.getD x.fst (Int.toNat a)
 (Ty.dflt t56)).snd.fst.fst -
 (List.getD x.fst
 (Int.toNat
 (IntKind.wrap IntKind.i64 (a - (1 : Int))))
 (Ty.dflt t56)).snd.fst.snd.fst)) =
 false →
 (decide (a > (0 : Int)) = true →
 ((IntKind.wrap IntKind.i64
 ((List.getD x.fst (Int.toNat a)
 (Ty.dflt t56)).fst.fst -
 (List.getD x.fst
 (Int.toNat
 (IntKind.wrap IntKind.i64
 (a - (1 : Int))))
 (Ty.dflt t56)).fst.snd.fst) ==
 (0 : Int)) =
 true →
 false = normal x.fst) ∧
 ((IntKind.wrap IntKind.i64
 ((List.getD x.fst (Int.toNat a)
 (Ty.dflt t56)).fst.fst -
 (List.getD x.fst
 (Int.toNat
 (IntKind.wrap IntKind.i64
 (a - (1 : Int))))
 (Ty.dflt t56)).fst.snd.fst) ==
 (0 : Int)) =
 false →
 (IntKind.wrap IntKind.i64 (a + (1 : Int)) =
 IntKind.wrap IntKind.i64 (a + (1 : Int)) ∧
 x.fst = x.fst ∧
 x.fst = x.fst ∧
 (↑(List.length x.fst) : Int) =
 (↑(List.length x.fst) : Int)) ∧
 Z (IntKind.wrap IntKind.i64 (a + (1 : Int)), ()) ∧
 μ (IntKind.wrap IntKind.i64 (a + (1 : Int)), ()) <
 μ (a, ()))) ∧
 (decide (a > (0 : Int)) = false →
 (IntKind.wrap IntKind.i64 (a + (1 : Int)) =
 IntKind.wrap IntKind.i64 (a + (1 : Int)) ∧
 x.fst = x.fst ∧
 x.fst = x.fst ∧
 (↑(List.length x.fst) : Int) =
 (↑(List.length x.fst) : Int)) ∧
 Z (IntKind.wrap IntKind.i64 (a + (1 : Int)), ()) ∧
 μ (IntKind.wrap IntKind.i64 (a + (1 : Int)), ()) <
 μ (a, ()))))) ∧
 (decide (a > (0 : Int)) = false →
 (decide
 (IntKind.wrap IntKind.i64
 ((List.getD x.fst (Int.toNat a) (Ty.dflt t56)).fst.fst -
 (0 : Int)) <
 (0 : Int)) =
 true →
 false = normal x.fst) ∧
 (decide
 (IntKind.wrap IntKind.i64
 ((List.getD x.fst (Int.toNat a) (Ty.dflt t56)).fst.fst -
 (0 : Int)) <
 (0 : Int)) =
 false →
 ((IntKind.wrap IntKind.i64
 ((List.getD x.fst (Int.toNat a) (Ty.dflt t56)).fst.fst -
 (0 : Int)) !=
 IntKind.wrap IntKind.i64
 ((List.getD x.fst (Int.toNat a) (Ty.dflt t56)).snd.fst.fst -
 (0 : Int))) =
 true →
 false = normal x.fst) ∧
 ((IntKind.wrap IntKind.i64
 ((List.getD x.fst (Int.toNat a) (Ty.dflt t56)).fst.fst -
 (0 : Int)) !=
 IntKind.wrap IntKind.i64
 ((List.getD x.fst (Int.toNat a) (Ty.dflt t56)).snd.fst.fst -
 (0 : Int))) =
 false →
 (decide (a > (0 : Int)) = true →
 ((IntKind.wrap IntKind.i64
 ((List.getD x.fst (Int.toNat a)
 (Ty.dflt t56)).fst.fst -
 (0 : Int)) ==
 (0 : Int)) =
 true →
 false = normal x.fst) ∧
 ((IntKind.wrap IntKind.i64
 ((List.getD x.fst (Int.toNat a)
 (Ty.dflt t56)).fst.fst -
 (0 : Int)) ==
 (0 : Int)) =
 false →
 (IntKind.wrap IntKind.i64 (a + (1 : Int)) =
 IntKind.wrap IntKind.i64 (a + (1 : Int)) ∧
 x.fst = x.fst ∧
 x.fst = x.fst ∧
 (↑(List.length x.fst) : Int) =
 (↑(List.length x.fst) : Int)) ∧
 Z (IntKind.wrap IntKind.i64 (a + (1 : Int)), ()) ∧
 μ (IntKind.wrap IntKind.i64 (a + (1 : Int)), ()) <
 μ (a, ()))) ∧
 (decide (a > (0 : Int)) = false →
 (IntKind.wrap IntKind.i64 (a + (1 : Int)) =
 IntKind.wrap IntKind.i64 (a + (1 : Int)) ∧
 x.fst = x.fst ∧
 x.fst = x.fst ∧
 (↑(List.length x.fst) : Int) =
 (↑(List.length x.fst) : Int)) ∧
 Z (IntKind.wrap IntKind.i64 (a + (1 : Int)), ()) ∧
 μ (IntKind.wrap IntKind.i64 (a + (1 : Int)), ()) <
 μ (a, ()))))))) ∧
 (((List.getD x.fst (Int.toNat a) (Ty.dflt t56)).fst.fst ==
 (List.getD x.fst (Int.toNat a) (Ty.dflt t56)).fst.snd.fst) =
 false →
 (decide (a > (0 : Int)) = true →
 ((0 : Int) ≤ IntKind.wrap IntKind.i64 (a - (1 : Int)) ∧
 IntKind.wrap IntKind.i64 (a - (1 : Int)) < (↑(List.length x.fst) : Int)) ∧
 (decide
 (IntKind.wrap IntKind.i64
 ((List.getD x.fst (Int.toNat a) (Ty.dflt t56)).fst.fst -
 (List.getD x.fst
 (Int.toNat (IntKind.wrap IntKind.i64 (a - (1 : Int))))
 (Ty.dflt t56)).fst.snd.fst) <
 (0 : Int)) =
 true →
 false = normal x.fst) ∧
 (decide
 (IntKind.wrap IntKind.i64
 ((List.getD x.fst (Int.toNat a) (Ty.dflt t56)).fst.fst -
 (List.getD x.fst
 (Int.toNat (IntKind.wrap IntKind.i64 (a - (1 : Int))))
 (Ty.dflt t56)).fst.snd.fst) <
 (0 : Int)) =
 false →
 ((IntKind.wrap IntKind.i64
 ((List.getD x.fst (Int.toNat a) (Ty.dflt t56)).fst.fst -
 (List.getD x.fst
 (Int.toNat
 (IntKind.wrap IntKind.i64 (a - (1 : Int))))
 (Ty.dflt t56)).fst.snd.fst) !=
 IntKind.wrap IntKind.i64
 ((List.getD x.fst (Int.toNat a) (Ty.dflt t56)).snd.fst.fst -
 (List.getD x.fst
 (Int.toNat
 (IntKind.wrap IntKind.i64 (a - (1 : Int))))
 (Ty.dflt t56)).snd.fst.snd.fst)) =
 true →
 false = normal x.fst) ∧
 ((IntKind.wrap IntKind.i64
 ((List.getD x.fst (Int.toNat a) (Ty.dflt t56)).fst.fst -
 (List.getD x.fst
 (Int.toNat
 (IntKind.wrap IntKind.i64 (a - (1 : Int))))
 (Ty.dflt t56)).fst.snd.fst) !=
 IntKind.wrap IntKind.i64
 ((List.getD x.fst (Int.toNat a) (Ty.dflt t56)).snd.fst.fst -
 (List.getD x.fst
 (Int.toNat
 (IntKind.wrap IntKind.i64 (a - (1 : Int))))
 (Ty.dflt t56)).snd.fst.snd.fst)) =
 false →
 (decide (a > (0 : Int)) = true →
 ((IntKind.wrap IntKind.i64
 ((List.getD x.fst (Int.toNat a)
 (Ty.dflt t56)).fst.fst -
 (List.getD x.fst
 (Int.toNat
 (IntKind.wrap IntKind.i64
 (a - (1 : Int))))
 (Ty.dflt t56)).fst.snd.fst) ==
 (0 : Int)) =
 true →
 false = normal x.fst) ∧
 ((IntKind.wrap IntKind.i64
 ((List.getD x.fst (Int.toNat a)
 (Ty.dflt t56)).fst.fst -
 (List.getD x.fst
 (Int.toNat
 (IntKind.wrap IntKind.i64
 (a - (1 : Int))))
 (Ty.dflt t56)).fst.snd.fst) ==
 (0 : Int)) =
 false →
 (IntKind.wrap IntKind.i64 (a + (1 : Int)) =
 IntKind.wrap IntKind.i64 (a + (1 : Int)) ∧
 x.fst = x.fst ∧
 x.fst = x.fst ∧
 (↑(List.length x.fst) : Int) =
 (↑(List.length x.fst) : Int)) ∧
 Z (IntKind.wrap IntKind.i64 (a + (1 : Int)), ()) ∧
 μ (IntKind.wrap IntKind.i64 (a + (1 : Int)), ()) <
 μ (a, ()))) ∧
 (decide (a > (0 : Int)) = false →
 (IntKind.wrap IntKind.i64 (a + (1 : Int)) =
 IntKind.wrap IntKind.i64 (a + (1 : Int)) ∧
 x.fst = x.fst ∧
 x.fst = x.fst ∧
 (↑(List.length x.fst) : Int) =
 (↑(List.length x.fst) : Int)) ∧
 Z (IntKind.wrap IntKind.i64 (a + (1 : Int)), ()) ∧
 μ (IntKind.wrap IntKind.i64 (a + (1 : Int)), ()) <
 μ (a, ()))))) ∧
 (decide (a > (0 : Int)) = false →
 (decide
 (IntKind.wrap IntKind.i64
 ((List.getD x.fst (Int.toNat a) (Ty.dflt t56)).fst.fst -
 (0 : Int)) <
 (0 : Int)) =
 true →
 false = normal x.fst) ∧
 (decide
 (IntKind.wrap IntKind.i64
 ((List.getD x.fst (Int.toNat a) (Ty.dflt t56)).fst.fst -
 (0 : Int)) <
 (0 : Int)) =
 false →
 ((IntKind.wrap IntKind.i64
 ((List.getD x.fst (Int.toNat a) (Ty.dflt t56)).fst.fst -
 (0 : Int)) !=
 IntKind.wrap IntKind.i64
 ((List.getD x.fst (Int.toNat a) (Ty.dflt t56)).snd.fst.fst -
 (0 : Int))) =
 true →
 false = normal x.fst) ∧
 ((IntKind.wrap IntKind.i64
 ((List.getD x.fst (Int.toNat a) (Ty.dflt t56)).fst.fst -
 (0 : Int)) !=
 IntKind.wrap IntKind.i64
 ((List.getD x.fst (Int.toNat a) (Ty.dflt t56)).snd.fst.fst -
 (0 : Int))) =
 false →
 (decide (a > (0 : Int)) = true →
 ((IntKind.wrap IntKind.i64
 ((List.getD x.fst (Int.toNat a) (Ty.dflt t56)).fst.fst -
 (0 : Int)) ==
 (0 : Int)) =
 true →
 false = normal x.fst) ∧
 ((IntKind.wrap IntKind.i64
 ((List.getD x.fst (Int.toNat a) (Ty.dflt t56)).fst.fst -
 (0 : Int)) ==
 (0 : Int)) =
 false →
 (IntKind.wrap IntKind.i64 (a + (1 : Int)) =
 IntKind.wrap IntKind.i64 (a + (1 : Int)) ∧
 x.fst = x.fst ∧
 x.fst = x.fst ∧
 (↑(List.length x.fst) : Int) =
 (↑(List.length x.fst) : Int)) ∧
 Z (IntKind.wrap IntKind.i64 (a + (1 : Int)), ()) ∧
 μ (IntKind.wrap IntKind.i64 (a + (1 : Int)), ()) <
 μ (a, ()))) ∧
 (decide (a > (0 : Int)) = false →
 (IntKind.wrap IntKind.i64 (a + (1 : Int)) =
 IntKind.wrap IntKind.i64 (a + (1 : Int)) ∧
 x.fst = x.fst ∧
 x.fst = x.fst ∧
 (↑(List.length x.fst) : Int) =
 (↑(List.length x.fst) : Int)) ∧
 Z (IntKind.wrap IntKind.i64 (a + (1 : Int)), ()) ∧
 μ (IntKind.wrap IntKind.i64 (a + (1 : Int)), ()) <
 μ (a, ()))))))))) ∧
 (decide (a < (↑(List.length x.fst) : Int)) = false → true = normal x.fst)
theorem vcEq10 : fnVC E10 Try.f10 (bodyOf Try.f10) cNormal = vc10 := by kernel_rfl
/- fn 11 -/
def hs11 : List (Nat × Nat × Hint) := [(0, 3, ⟨[.rowS 3 900000003 t57 57, .slot 8 t3], [6, 7], [], []⟩)]
def nm11 : List Nat := []
noncomputable def E11 : Env := env tab [] [] noGl hs11 nm11
def vc11 : Prop :=
 ∀ (x : List Chg × Unit),
 List.length x.fst ≤ (1000000000 : Nat) →
 (((0 : Int) = (0 : Int) ∧ True ∧ x.fst = x.fst ∧ (↑(List.length x.fst) : Int) = (↑(List.length x.fst) : Int)) ∧
 True ∧ True) ∧
 ∃ (Z : List Chg × Int × Unit → Prop),
 ∃ (μ : List Chg × Int × Unit → Nat),
 Z ([], (0 : Int), ()) ∧
 ∀ (a : List Chg) (a_1 : Int),
 Z (a, a_1, ()) →
 (decide (a_1 < (↑(List.length x.fst) : Int)) = true →
 ((0 : Int) ≤ a_1 ∧ a_1 < (↑(List.length x.fst) : Int)) ∧
 (List.length a + List.length [List.getD x.fst (Int.toNat a_1) (Ty.dflt t56)]) * (32 : Nat) ≤
 (140737488355328 : Nat) ∧
 List.length a + List.length [List.getD x.fst (Int.toNat a_1) (Ty.dflt t56)] ≤ maxLen ∧
 ((IntKind.wrap IntKind.i64 (a_1 + (1 : Int)) = IntKind.wrap IntKind.i64 (a_1 + (1 : Int)) ∧
 True ∧ x.fst = x.fst ∧ (↑(List.length x.fst) : Int) = (↑(List.length x.fst) : Int)) ∧
 a ++ [List.getD x.fst (Int.toNat a_1) (Ty.dflt t56)] =
 a ++ [List.getD x.fst (Int.toNat a_1) (Ty.dflt t56)] ∧
 True) ∧
 Z
 (a ++ [List.getD x.fst (Int.toNat a_1) (Ty.dflt t56)],
 IntKind.wrap IntKind.i64 (a_1 + (1 : Int)), ()) ∧
 μ
 (a ++ [List.getD x.fst (Int.toNat a_1) (Ty.dflt t56)],
 IntKind.wrap IntKind.i64 (a_1 + (1 : Int)), ()) <
 μ (a, a_1, ())) ∧
 (decide (a_1 < (↑(List.length x.fst) : Int)) = false → a = x.fst)
theorem vcEq11 : fnVC E11 Try.f11 (bodyOf Try.f11) cRefs = vc11 := by kernel_rfl
/- fn 12 -/
def hs12 : List (Nat × Nat × Hint) := [(0, 7, ⟨[.slot 8 t3, .slot 32 t3], [1, 2, 30, 31], [], []⟩)]
def nm12 : List Nat := []
noncomputable def E12 : Env := env tab [(13, cNormal)] [] noGl hs12 nm12
def vc12 : Prop :=
 ∀ (x : List Chg × Int × Int × Unit),
 List.length x.fst ≤ maxLen →
 List.length x.fst ≤ maxLen ∧
 ((!normal x.fst) = true → ((0 : Int), (4 : Int), ()) = mapP x.fst x.snd.fst x.snd.snd.fst) ∧
 ((!normal x.fst) = false →
 (decide (x.snd.fst < (0 : Int)) = true → ((0 : Int), (1 : Int), ()) = mapP x.fst x.snd.fst x.snd.snd.fst) ∧
 (decide (x.snd.fst < (0 : Int)) = false →
 (decide (x.snd.fst > (1099511627776 : Int)) = true →
 ((0 : Int), (1 : Int), ()) = mapP x.fst x.snd.fst x.snd.snd.fst) ∧
 (decide (x.snd.fst > (1099511627776 : Int)) = false →
 ((x.snd.snd.fst != (0 : Int)) = true →
 ((x.snd.snd.fst != (1 : Int)) = true →
 ((0 : Int), (1 : Int), ()) = mapP x.fst x.snd.fst x.snd.snd.fst) ∧
 ((x.snd.snd.fst != (1 : Int)) = false →
 ((0 : Int) = (0 : Int) ∧
 (0 : Int) = (0 : Int) ∧
 x.snd.fst = x.snd.fst ∧
 x.snd.snd.fst = x.snd.snd.fst ∧
 x.fst = x.fst ∧ (↑(List.length x.fst) : Int) = (↑(List.length x.fst) : Int)) ∧
 ∃ (Z : Int × Int × Unit → Prop),
 ∃ (μ : Int × Int × Unit → Nat),
 Z ((0 : Int), (0 : Int), ()) ∧
 ∀ (a a_1 : Int),
 Z (a, a_1, ()) →
 (decide (a_1 < (↑(List.length x.fst) : Int)) = true →
 ((0 : Int) ≤ a_1 ∧ a_1 < (↑(List.length x.fst) : Int)) ∧
 (decide
 (x.snd.fst <
 (List.getD x.fst (Int.toNat a_1) (Ty.dflt t56)).fst.fst) =
 true →
 (IntKind.wrap IntKind.i64 (x.snd.fst + a), (0 : Int), ()) =
 mapP x.fst x.snd.fst x.snd.snd.fst) ∧
 (decide
 (x.snd.fst <
 (List.getD x.fst (Int.toNat a_1) (Ty.dflt t56)).fst.fst) =
 false →
 (decide
 (x.snd.fst ≤
 (List.getD x.fst (Int.toNat a_1) (Ty.dflt t56)).fst.snd.fst) =
 true →
 ((x.snd.snd.fst == (0 : Int)) = true →
 ((List.getD x.fst (Int.toNat a_1) (Ty.dflt t56)).snd.fst.fst,
 (0 : Int), ()) =
 mapP x.fst x.snd.fst x.snd.snd.fst) ∧
 ((x.snd.snd.fst == (0 : Int)) = false →
 (decide
 (x.snd.fst ≤
 (List.getD x.fst (Int.toNat a_1)
 (Ty.dflt t56)).fst.snd.fst) =
 true →
 ((List.getD x.fst (Int.toNat a_1)
 (Ty.dflt t56)).snd.fst.snd.fst,
 (0 : Int), ()) =
 mapP x.fst x.snd.fst x.snd.snd.fst) ∧
 (decide
 (x.snd.fst ≤
 (List.getD x.fst (Int.toNat a_1)
 (Ty.dflt t56)).fst.snd.fst) =
 false →
 (IntKind.wrap IntKind.i64 (a_1 + (1 : Int)) =
 IntKind.wrap IntKind.i64 (a_1 + (1 : Int)) ∧
 IntKind.wrap IntKind.i64
 ((List.getD x.fst (Int.toNat a_1)
 (Ty.dflt t56)).snd.fst.snd.fst -
 (List.getD x.fst (Int.toNat a_1)
 (Ty.dflt t56)).fst.snd.fst) =
 IntKind.wrap IntKind.i64
 ((List.getD x.fst (Int.toNat a_1)
 (Ty.dflt t56)).snd.fst.snd.fst -
 (List.getD x.fst (Int.toNat a_1)
 (Ty.dflt t56)).fst.snd.fst) ∧
 x.snd.fst = x.snd.fst ∧
 x.snd.snd.fst = x.snd.snd.fst ∧
 x.fst = x.fst ∧
 (↑(List.length x.fst) : Int) =
 (↑(List.length x.fst) : Int)) ∧
 Z
 (IntKind.wrap IntKind.i64
 ((List.getD x.fst (Int.toNat a_1)
 (Ty.dflt t56)).snd.fst.snd.fst -
 (List.getD x.fst (Int.toNat a_1)
 (Ty.dflt t56)).fst.snd.fst),
 IntKind.wrap IntKind.i64 (a_1 + (1 : Int)), ()) ∧
 μ
 (IntKind.wrap IntKind.i64
 ((List.getD x.fst (Int.toNat a_1)
 (Ty.dflt t56)).snd.fst.snd.fst -
 (List.getD x.fst (Int.toNat a_1)
 (Ty.dflt t56)).fst.snd.fst),
 IntKind.wrap IntKind.i64 (a_1 + (1 : Int)), ()) <
 μ (a, a_1, ())))) ∧
 (decide
 (x.snd.fst ≤
 (List.getD x.fst (Int.toNat a_1) (Ty.dflt t56)).fst.snd.fst) =
 false →
 (decide
 (x.snd.fst ≤
 (List.getD x.fst (Int.toNat a_1)
 (Ty.dflt t56)).fst.snd.fst) =
 true →
 ((List.getD x.fst (Int.toNat a_1)
 (Ty.dflt t56)).snd.fst.snd.fst,
 (0 : Int), ()) =
 mapP x.fst x.snd.fst x.snd.snd.fst) ∧
 (decide
 (x.snd.fst ≤
 (List.getD x.fst (Int.toNat a_1)
 (Ty.dflt t56)).fst.snd.fst) =
 false →
 (IntKind.wrap IntKind.i64 (a_1 + (1 : Int)) =
 IntKind.wrap IntKind.i64 (a_1 + (1 : Int)) ∧
 IntKind.wrap IntKind.i64
 ((List.getD x.fst (Int.toNat a_1)
 (Ty.dflt t56)).snd.fst.snd.fst -
 (List.getD x.fst (Int.toNat a_1)
 (Ty.dflt t56)).fst.snd.fst) =
 IntKind.wrap IntKind.i64
 ((List.getD x.fst (Int.toNat a_1)
 (Ty.dflt t56)).snd.fst.snd.fst -
 (List.getD x.fst (Int.toNat a_1)
 (Ty.dflt t56)).fst.snd.fst) ∧
 x.snd.fst = x.snd.fst ∧
 x.snd.snd.fst = x.snd.snd.fst ∧
 x.fst = x.fst ∧
 (↑(List.length x.fst) : Int) =
 (↑(List.length x.fst) : Int)) ∧
 Z
 (IntKind.wrap IntKind.i64
 ((List.getD x.fst (Int.toNat a_1)
 (Ty.dflt t56)).snd.fst.snd.fst -
 (List.getD x.fst (Int.toNat a_1)
 (Ty.dflt t56)).fst.snd.fst),
 IntKind.wrap IntKind.i64 (a_1 + (1 : Int)), ()) ∧
 μ
 (IntKind.wrap IntKind.i64
 ((List.getD x.fst (Int.toNat a_1)
 (Ty.dflt t56)).snd.fst.snd.fst -
 (List.getD x.fst (Int.toNat a_1)
 (Ty.dflt t56)).fst.snd.fst),
 IntKind.wrap IntKind.i64 (a_1 + (1 : Int)), ()) <
 μ (a, a_1, ()))))) ∧
 (decide (a_1 < (↑(List.length x.fst) : Int)) = false →
 (IntKind.wrap IntKind.i64 (x.snd.fst + a), (0 : Int), ()) =
 mapP x.fst x.snd.fst x.snd.snd.fst))) ∧
 ((x.snd.snd.fst != (0 : Int)) = false →
 ((0 : Int) = (0 : Int) ∧
 (0 : Int) = (0 : Int) ∧
 x.snd.fst = x.snd.fst ∧
 x.snd.snd.fst = x.snd.snd.fst ∧
 x.fst = x.fst ∧ (↑(List.length x.fst) : Int) = (↑(List.length x.fst) : Int)) ∧
 ∃ (Z : Int × Int × Unit → Prop),
 ∃ (μ : Int × Int × Unit → Nat),
 Z ((0 : Int), (0 : Int), ()) ∧
 ∀ (a a_1 : Int),
 Z (a, a_1, ()) →
 (decide (a_1 < (↑(List.length x.fst) : Int)) = true →
 ((0 : Int) ≤ a_1 ∧ a_1 < (↑(List.length x.fst) : Int)) ∧
 (decide (x.snd.fst < (List.getD x.fst (Int.toNat a_1) (Ty.dflt t56)).fst.fst) =
 true →
 (IntKind.wrap IntKind.i64 (x.snd.fst + a), (0 : Int), ()) =
 mapP x.fst x.snd.fst x.snd.snd.fst) ∧
 (decide
 (x.snd.fst < (List.getD x.fst (Int.toNat a_1) (Ty.dflt t56)).fst.fst) =
 false →
 (decide
 (x.snd.fst ≤
 (List.getD x.fst (Int.toNat a_1) (Ty.dflt t56)).fst.snd.fst) =
 true →
 ((x.snd.snd.fst == (0 : Int)) = true →
 ((List.getD x.fst (Int.toNat a_1) (Ty.dflt t56)).snd.fst.fst,
 (0 : Int), ()) =
 mapP x.fst x.snd.fst x.snd.snd.fst) ∧
 ((x.snd.snd.fst == (0 : Int)) = false →
 (decide
 (x.snd.fst ≤
 (List.getD x.fst (Int.toNat a_1)
 (Ty.dflt t56)).fst.snd.fst) =
 true →
 ((List.getD x.fst (Int.toNat a_1)
 (Ty.dflt t56)).snd.fst.snd.fst,
 (0 : Int), ()) =
 mapP x.fst x.snd.fst x.snd.snd.fst) ∧
 (decide
 (x.snd.fst ≤
 (List.getD x.fst (Int.toNat a_1)
 (Ty.dflt t56)).fst.snd.fst) =
 false →
 (IntKind.wrap IntKind.i64 (a_1 + (1 : Int)) =
 IntKind.wrap IntKind.i64 (a_1 + (1 : Int)) ∧
 IntKind.wrap IntKind.i64
 ((List.getD x.fst (Int.toNat a_1)
 (Ty.dflt t56)).snd.fst.snd.fst -
 (List.getD x.fst (Int.toNat a_1)
 (Ty.dflt t56)).fst.snd.fst) =
 IntKind.wrap IntKind.i64
 ((List.getD x.fst (Int.toNat a_1)
 (Ty.dflt t56)).snd.fst.snd.fst -
 (List.getD x.fst (Int.toNat a_1)
 (Ty.dflt t56)).fst.snd.fst) ∧
 x.snd.fst = x.snd.fst ∧
 x.snd.snd.fst = x.snd.snd.fst ∧
 x.fst = x.fst ∧
 (↑(List.length x.fst) : Int) =
 (↑(List.length x.fst) : Int)) ∧
 Z
 (IntKind.wrap IntKind.i64
 ((List.getD x.fst (Int.toNat a_1)
 (Ty.dflt t56)).snd.fst.snd.fst -
 (List.getD x.fst (Int.toNat a_1)
 (Ty.dflt t56)).fst.snd.fst),
 IntKind.wrap IntKind.i64 (a_1 + (1 : Int)), ()) ∧
 μ
 (IntKind.wrap IntKind.i64
 ((List.getD x.fst (Int.toNat a_1)
 (Ty.dflt t56)).snd.fst.snd.fst -
 (List.getD x.fst (Int.toNat a_1)
 (Ty.dflt t56)).fst.snd.fst),
 IntKind.wrap IntKind.i64 (a_1 + (1 : Int)), ()) <
 μ (a, a_1, ())))) ∧
 (decide
 (x.snd.fst ≤
 (List.getD x.fst (Int.toNat a_1) (Ty.dflt t56)).fst.snd.fst) =
 false →
 (decide
 (x.snd.fst ≤
 (List.getD x.fst (Int.toNat a_1) (Ty.dflt t56)).fst.snd.fst) =
 true →
 ((List.getD x.fst (Int.toNat a_1) (Ty.dflt t56)).snd.fst.snd.fst,
 (0 : Int), ()) =
 mapP x.fst x.snd.fst x.snd.snd.fst) ∧
 (decide
 (x.snd.fst ≤
 (List.getD x.fst (Int.toNat a_1) (Ty.dflt t56)).fst.snd.fst) =
 false →
 (IntKind.wrap IntKind.i64 (a_1 + (1 : Int)) =
 IntKind.wrap IntKind.i64 (a_1 + (1 : Int)) ∧
 IntKind.wrap IntKind.i64
 ((List.getD x.fst (Int.toNat a_1)
 (Ty.dflt t56)).snd.fst.snd.fst -
 (List.getD x.fst (Int.toNat a_1)
 (Ty.dflt t56)).fst.snd.fst) =
 IntKind.wrap IntKind.i64
 ((List.getD x.fst (Int.toNat a_1)
 (Ty.dflt t56)).snd.fst.snd.fst -
 (List.getD x.fst (Int.toNat a_1)
 (Ty.dflt t56)).fst.snd.fst) ∧
 x.snd.fst = x.snd.fst ∧
 x.snd.snd.fst = x.snd.snd.fst ∧
 x.fst = x.fst ∧
 (↑(List.length x.fst) : Int) =
 (↑(List.length x.fst) : Int)) ∧
 Z
 (IntKind.wrap IntKind.i64
 ((List.getD x.fst (Int.toNat a_1)
 (Ty.dflt t56)).snd.fst.snd.fst -
 (List.getD x.fst (Int.toNat a_1)
 (Ty.dflt t56)).fst.snd.fst),
 IntKind.wrap IntKind.i64 (a_1 + (1 : Int)), ()) ∧
 μ
 (IntKind.wrap IntKind.i64
 ((List.getD x.fst (Int.toNat a_1)
 (Ty.dflt t56)).snd.fst.snd.fst -
 (List.getD x.fst (Int.toNat a_1)
 (Ty.dflt t56)).fst.snd.fst),
 IntKind.wrap IntKind.i64 (a_1 + (1 : Int)), ()) <
 μ (a, a_1, ()))))) ∧
 (decide (a_1 < (↑(List.length x.fst) : Int)) = false →
 (IntKind.wrap IntKind.i64 (x.snd.fst + a), (0 : Int), ()) =
 mapP x.fst x.snd.fst x.snd.snd.fst)))))
theorem vcEq12 : fnVC E12 Try.f12 (bodyOf Try.f12) cMap = vc12 := by kernel_rfl
/- fn 13 -/
def hs13 : List (Nat × Nat × Hint) := [(0, 3, ⟨[.slot 9 t3, .cell 3 0 t3, .cell 3 1 t3, .cell 3 2 t3, .cell 3 3 t3], [3, 7, 8], [3], []⟩)]
def nm13 : List Nat := []
noncomputable def E13 : Env := env tab [(27, cWithin), (28, cSize)] [] noGl hs13 nm13
def vc13 : Prop :=
 ∀ (x : List Chg × Unit),
 List.length x.fst ≤ maxLen →
 (((0 : Int) = (0 : Int) ∧ True ∧ x.fst = x.fst ∧ (↑(List.length x.fst) : Int) = (↑(List.length x.fst) : Int)) ∧
 (0 : Int) = (0 : Int) ∧ (0 : Int) = (0 : Int) ∧ (0 : Int) = (0 : Int) ∧ (0 : Int) = (0 : Int)) ∧
 ∃ (Z : Int × Int × Int × Int × Int × Unit → Prop),
 ∃ (μ : Int × Int × Int × Int × Int × Unit → Nat),
 Z ((0 : Int), (0 : Int), (0 : Int), (0 : Int), (0 : Int), ()) ∧
 ∀ (a a_1 a_2 a_3 a_4 : Int),
 Z (a, a_1, a_2, a_3, a_4, ()) →
 (decide (a < (↑(List.length x.fst) : Int)) = true →
 ((0 : Int) ≤ a ∧ a < (↑(List.length x.fst) : Int)) ∧
 True ∧
 ((!within (List.getD x.fst (Int.toNat a) (Ty.dflt t56)).fst) = true → false = normal x.fst) ∧
 ((!within (List.getD x.fst (Int.toNat a) (Ty.dflt t56)).fst) = false →
 True ∧
 ((!within (List.getD x.fst (Int.toNat a) (Ty.dflt t56)).snd.fst) = true →
 false = normal x.fst) ∧
 ((!within (List.getD x.fst (Int.toNat a) (Ty.dflt t56)).snd.fst) = false →
 True ∧
 True ∧
 ((IntKind.wrap IntKind.i64
 (size (List.getD x.fst (Int.toNat a) (Ty.dflt t56)).fst +
 size (List.getD x.fst (Int.toNat a) (Ty.dflt t56)).snd.fst) ==
 (0 : Int)) =
 true →
 false = normal x.fst) ∧
 ((IntKind.wrap IntKind.i64
 (size (List.getD x.fst (Int.toNat a) (Ty.dflt t56)).fst +
 size (List.getD x.fst (Int.toNat a) (Ty.dflt t56)).snd.fst) ==
 (0 : Int)) =
 false →
 ((IntKind.wrap IntKind.i64
 ((List.getD x.fst (Int.toNat a) (Ty.dflt t56)).fst.fst - a_2) !=
 IntKind.wrap IntKind.i64
 ((List.getD x.fst (Int.toNat a) (Ty.dflt t56)).snd.fst.fst - a_4)) =
 true →
 false = normal x.fst) ∧
 ((IntKind.wrap IntKind.i64
 ((List.getD x.fst (Int.toNat a) (Ty.dflt t56)).fst.fst - a_2) !=
 IntKind.wrap IntKind.i64
 ((List.getD x.fst (Int.toNat a) (Ty.dflt t56)).snd.fst.fst - a_4)) =
 false →
 (decide
 (IntKind.wrap IntKind.i64
 ((List.getD x.fst (Int.toNat a) (Ty.dflt t56)).fst.fst -
 a_2) <
 (0 : Int)) =
 true →
 false = normal x.fst) ∧
 (decide
 (IntKind.wrap IntKind.i64
 ((List.getD x.fst (Int.toNat a) (Ty.dflt t56)).fst.fst -
 a_2) <
 (0 : Int)) =
 false →
 ((IntKind.wrap IntKind.i64
 ((List.getD x.fst (Int.toNat a) (Ty.dflt t56)).fst.fst -
 a_2) ==
 (0 : Int)) =
 true →
 (decide (a > (0 : Int)) = true → false = normal x.fst) ∧
 (decide (a > (0 : Int)) = false →
 ((IntKind.wrap IntKind.i64 (a + (1 : Int)) =
 IntKind.wrap IntKind.i64 (a + (1 : Int)) ∧
 True ∧
 x.fst = x.fst ∧
 (↑(List.length x.fst) : Int) =
 (↑(List.length x.fst) : Int)) ∧
 (List.getD x.fst (Int.toNat a) (Ty.dflt t56)).fst.fst =
 (List.getD x.fst (Int.toNat a)
 (Ty.dflt t56)).fst.fst ∧
 (List.getD x.fst (Int.toNat a)
 (Ty.dflt t56)).fst.snd.fst =
 (List.getD x.fst (Int.toNat a)
 (Ty.dflt t56)).fst.snd.fst ∧
 (List.getD x.fst (Int.toNat a)
 (Ty.dflt t56)).snd.fst.fst =
 (List.getD x.fst (Int.toNat a)
 (Ty.dflt t56)).snd.fst.fst ∧
 (List.getD x.fst (Int.toNat a)
 (Ty.dflt t56)).snd.fst.snd.fst =
 (List.getD x.fst (Int.toNat a)
 (Ty.dflt t56)).snd.fst.snd.fst) ∧
 Z
 (IntKind.wrap IntKind.i64 (a + (1 : Int)),
 (List.getD x.fst (Int.toNat a) (Ty.dflt t56)).fst.fst,
 (List.getD x.fst (Int.toNat a)
 (Ty.dflt t56)).fst.snd.fst,
 (List.getD x.fst (Int.toNat a)
 (Ty.dflt t56)).snd.fst) ∧
 μ
 (IntKind.wrap IntKind.i64 (a + (1 : Int)),
 (List.getD x.fst (Int.toNat a)
 (Ty.dflt t56)).fst.fst,
 (List.getD x.fst (Int.toNat a)
 (Ty.dflt t56)).fst.snd.fst,
 (List.getD x.fst (Int.toNat a)
 (Ty.dflt t56)).snd.fst) <
 μ (a, a_1, a_2, a_3, a_4, ()))) ∧
 ((IntKind.wrap IntKind.i64
 ((List.getD x.fst (Int.toNat a) (Ty.dflt t56)).fst.fst -
 a_2) ==
 (0 : Int)) =
 false →
 ((IntKind.wrap IntKind.i64 (a + (1 : Int)) =
 IntKind.wrap IntKind.i64 (a + (1 : Int)) ∧
 True ∧
 x.fst = x.fst ∧
 (↑(List.length x.fst) : Int) =
 (↑(List.length x.fst) : Int)) ∧
 (List.getD x.fst (Int.toNat a) (Ty.dflt t56)).fst.fst =
 (List.getD x.fst (Int.toNat a) (Ty.dflt t56)).fst.fst ∧
 (List.getD x.fst (Int.toNat a) (Ty.dflt t56)).fst.snd.fst =
 (List.getD x.fst (Int.toNat a)
 (Ty.dflt t56)).fst.snd.fst ∧
 (List.getD x.fst (Int.toNat a)
 (Ty.dflt t56)).snd.fst.fst =
 (List.getD x.fst (Int.toNat a)
 (Ty.dflt t56)).snd.fst.fst ∧
 (List.getD x.fst (Int.toNat a)
 (Ty.dflt t56)).snd.fst.snd.fst =
 (List.getD x.fst (Int.toNat a)
 (Ty.dflt t56)).snd.fst.snd.fst) ∧
 Z
 (IntKind.wrap IntKind.i64 (a + (1 : Int)),
 (List.getD x.fst (Int.toNat a) (Ty.dflt t56)).fst.fst,
 (List.getD x.fst (Int.toNat a) (Ty.dflt t56)).fst.snd.fst,
 (List.getD x.fst (Int.toNat a) (Ty.dflt t56)).snd.fst) ∧
 μ
 (IntKind.wrap IntKind.i64 (a + (1 : Int)),
 (List.getD x.fst (Int.toNat a) (Ty.dflt t56)).fst.fst,
 (List.getD x.fst (Int.toNat a)
 (Ty.dflt t56)).fst.snd.fst,
 (List.getD x.fst (Int.toNat a) (Ty.dflt t56)).snd.fst) <
 μ (a, a_1, a_2, a_3, a_4, ())))))))) ∧
 (decide (a < (↑(List.length x.fst) : Int)) = false → true = normal x.fst)
theorem vcEq13 : fnVC E13 Try.f13 (bodyOf Try.f13) cNormal = vc13 := by kernel_rfl
/- fn 14 -/
def hs14 : List (Nat × Nat × Hint) := [(0, 3, ⟨[.slot 7 t3, .slot 12 t3], [1, 2, 10, 11], [], []⟩)]
def nm14 : List Nat := []
noncomputable def E14 : Env := env tab [] [] noGl hs14 nm14
def vc14 : Prop :=
 ∀ (x : List Chg × Int × Int × Unit),
 List.length x.fst ≤ maxLen ∧
 normal x.fst = true ∧ (0 : Ty.den t3) ≤ x.snd.fst ∧ x.snd.fst ≤ (1099511627776 : Ty.den t3) →
 ((0 : Int) = (0 : Int) ∧
 (0 : Int) = (0 : Int) ∧
 x.snd.fst = x.snd.fst ∧
 x.snd.snd.fst = x.snd.snd.fst ∧
 x.fst = x.fst ∧ (↑(List.length x.fst) : Int) = (↑(List.length x.fst) : Int)) ∧
 ∃ (Z : Int × Int × Unit → Prop),
 ∃ (μ : Int × Int × Unit → Nat),
 Z ((0 : Int), (0 : Int), ()) ∧
 ∀ (a a_1 : Int),
 Z (a, a_1, ()) →
 (decide (a_1 < (↑(List.length x.fst) : Int)) = true →
 ((0 : Int) ≤ a_1 ∧ a_1 < (↑(List.length x.fst) : Int)) ∧
 (decide (x.snd.fst ≥ (List.getD x.fst (Int.toNat a_1) (Ty.dflt t57)).fst.fst) = true →
 (decide (x.snd.fst ≤ (List.getD x.fst (Int.toNat a_1) (Ty.dflt t57)).fst.snd.fst) = true →
 ((x.snd.snd.fst == (0 : Int)) = true →
 (List.getD x.fst (Int.toNat a_1) (Ty.dflt t57)).snd.fst.fst =
 refMap x.snd.fst x.snd.snd.fst x.fst (0 : Int)) ∧
 ((x.snd.snd.fst == (0 : Int)) = false →
 (List.getD x.fst (Int.toNat a_1) (Ty.dflt t57)).snd.fst.snd.fst =
 refMap x.snd.fst x.snd.snd.fst x.fst (0 : Int))) ∧
 (decide (x.snd.fst ≤ (List.getD x.fst (Int.toNat a_1) (Ty.dflt t57)).fst.snd.fst) = false →
 (decide (x.snd.fst > (List.getD x.fst (Int.toNat a_1) (Ty.dflt t57)).fst.snd.fst) = true →
 (IntKind.wrap IntKind.i64 (a_1 + (1 : Int)) =
 IntKind.wrap IntKind.i64 (a_1 + (1 : Int)) ∧
 IntKind.wrap IntKind.i64
 ((List.getD x.fst (Int.toNat a_1) (Ty.dflt t57)).snd.fst.snd.fst -
 (List.getD x.fst (Int.toNat a_1) (Ty.dflt t57)).fst.snd.fst) =
 IntKind.wrap IntKind.i64
 ((List.getD x.fst (Int.toNat a_1) (Ty.dflt t57)).snd.fst.snd.fst -
 (List.getD x.fst (Int.toNat a_1) (Ty.dflt t57)).fst.snd.fst) ∧
 x.snd.fst = x.snd.fst ∧
 x.snd.snd.fst = x.snd.snd.fst ∧
 x.fst = x.fst ∧
 (↑(List.length x.fst) : Int) = (↑(List.length x.fst) : Int)) ∧
 Z
 (IntKind.wrap IntKind.i64
 ((List.getD x.fst (Int.toNat a_1) (Ty.dflt t57)).snd.fst.snd.fst -
 (List.getD x.fst (Int.toNat a_1) (Ty.dflt t57)).fst.snd.fst),
 IntKind.wrap IntKind.i64 (a_1 + (1 : Int)), ()) ∧
 μ
 (IntKind.wrap IntKind.i64
 ((List.getD x.fst (Int.toNat a_1) (Ty.dflt t57)).snd.fst.snd.fst -
 (List.getD x.fst (Int.toNat a_1) (Ty.dflt t57)).fst.snd.fst),
 IntKind.wrap IntKind.i64 (a_1 + (1 : Int)), ()) <
 μ (a, a_1, ())) ∧
 (decide (x.snd.fst > (List.getD x.fst (Int.toNat a_1) (Ty.dflt t57)).fst.snd.fst) =
 false →
 (IntKind.wrap IntKind.i64 (a_1 + (1 : Int)) =
 IntKind.wrap IntKind.i64 (a_1 + (1 : Int)) ∧
 a = a ∧
 x.snd.fst = x.snd.fst ∧
 x.snd.snd.fst = x.snd.snd.fst ∧
 x.fst = x.fst ∧
 (↑(List.length x.fst) : Int) = (↑(List.length x.fst) : Int)) ∧
 Z (a, IntKind.wrap IntKind.i64 (a_1 + (1 : Int)), ()) ∧
 μ (a, IntKind.wrap IntKind.i64 (a_1 + (1 : Int)), ()) < μ (a, a_1, ())))) ∧
 (decide (x.snd.fst ≥ (List.getD x.fst (Int.toNat a_1) (Ty.dflt t57)).fst.fst) = false →
 (decide (x.snd.fst > (List.getD x.fst (Int.toNat a_1) (Ty.dflt t57)).fst.snd.fst) = true →
 (IntKind.wrap IntKind.i64 (a_1 + (1 : Int)) = IntKind.wrap IntKind.i64 (a_1 + (1 : Int)) ∧
 IntKind.wrap IntKind.i64
 ((List.getD x.fst (Int.toNat a_1) (Ty.dflt t57)).snd.fst.snd.fst -
 (List.getD x.fst (Int.toNat a_1) (Ty.dflt t57)).fst.snd.fst) =
 IntKind.wrap IntKind.i64
 ((List.getD x.fst (Int.toNat a_1) (Ty.dflt t57)).snd.fst.snd.fst -
 (List.getD x.fst (Int.toNat a_1) (Ty.dflt t57)).fst.snd.fst) ∧
 x.snd.fst = x.snd.fst ∧
 x.snd.snd.fst = x.snd.snd.fst ∧
 x.fst = x.fst ∧ (↑(List.length x.fst) : Int) = (↑(List.length x.fst) : Int)) ∧
 Z
 (IntKind.wrap IntKind.i64
 ((List.getD x.fst (Int.toNat a_1) (Ty.dflt t57)).snd.fst.snd.fst -
 (List.getD x.fst (Int.toNat a_1) (Ty.dflt t57)).fst.snd.fst),
 IntKind.wrap IntKind.i64 (a_1 + (1 : Int)), ()) ∧
 μ
 (IntKind.wrap IntKind.i64
 ((List.getD x.fst (Int.toNat a_1) (Ty.dflt t57)).snd.fst.snd.fst -
 (List.getD x.fst (Int.toNat a_1) (Ty.dflt t57)).fst.snd.fst),
 IntKind.wrap IntKind.i64 (a_1 + (1 : Int)), ()) <
 μ (a, a_1, ())) ∧
 (decide (x.snd.fst > (List.getD x.fst (Int.toNat a_1) (Ty.dflt t57)).fst.snd.fst) = false →
 (IntKind.wrap IntKind.i64 (a_1 + (1 : Int)) = IntKind.wrap IntKind.i64 (a_1 + (1 : Int)) ∧
 a = a ∧
 x.snd.fst = x.snd.fst ∧
 x.snd.snd.fst = x.snd.snd.fst ∧
 x.fst = x.fst ∧ (↑(List.length x.fst) : Int) = (↑(List.length x.fst) : Int)) ∧
 Z (a, IntKind.wrap IntKind.i64 (a_1 + (1 : Int)), ()) ∧
 μ (a, IntKind.wrap IntKind.i64 (a_1 + (1 : Int)), ()) < μ (a, a_1, ())))) ∧
 (decide (a_1 < (↑(List.length x.fst) : Int)) = false →
 IntKind.wrap IntKind.i64 (x.snd.fst + a) = refMap x.snd.fst x.snd.snd.fst x.fst (0 : Int))
theorem vcEq14 : fnVC E14 Try.f14 (bodyOf Try.f14) cRefMap = vc14 := by kernel_rfl
/- fn 18 -/
def hs18 : List (Nat × Nat × Hint) := [(0, 2, ⟨[.slot 8 t3], [0, 1, 7], [], []⟩)]
def nm18 : List Nat := []
noncomputable def E18 : Env := env tab [] [] noGl hs18 nm18
def vc18 : Prop :=
 ∀
 (x :
 List Chg ×
 List Chg × Unit),
 List.length x.fst ≤ maxLen ∧ List.length x.snd.fst ≤ maxLen →
 ((0 : Int) = (0 : Int) ∧
 x.fst = x.fst ∧ x.snd.fst = x.snd.fst ∧ (↑(List.length x.fst) : Int) = (↑(List.length x.fst) : Int)) ∧
 ∃ (Z : Int × Unit → Prop),
 ∃ (μ : Int × Unit → Nat),
 Z ((0 : Int), ()) ∧
 ∀ (a : Int),
 Z (a, ()) →
 (decide (a < (↑(List.length x.fst) : Int)) = true →
 (decide (a ≥ (↑(List.length x.snd.fst) : Int)) = true → false = decide (x.fst = x.snd.fst)) ∧
 (decide (a ≥ (↑(List.length x.snd.fst) : Int)) = false →
 ((0 : Int) ≤ a ∧ a < (↑(List.length x.fst) : Int)) ∧
 ((0 : Int) ≤ a ∧ a < (↑(List.length x.snd.fst) : Int)) ∧
 ((!Ty.beq t57 (List.getD x.fst (Int.toNat a) (Ty.dflt t57))
 (List.getD x.snd.fst (Int.toNat a) (Ty.dflt t57))) =
 true →
 false = decide (x.fst = x.snd.fst)) ∧
 ((!Ty.beq t57 (List.getD x.fst (Int.toNat a) (Ty.dflt t57))
 (List.getD x.snd.fst (Int.toNat a) (Ty.dflt t57))) =
 false →
 (IntKind.wrap IntKind.i64 (a + (1 : Int)) = IntKind.wrap IntKind.i64 (a + (1 : Int)) ∧
 x.fst = x.fst ∧
 x.snd.fst = x.snd.fst ∧
 (↑(List.length x.fst) : Int) = (↑(List.length x.fst) : Int)) ∧
 Z (IntKind.wrap IntKind.i64 (a + (1 : Int)), ()) ∧
 μ (IntKind.wrap IntKind.i64 (a + (1 : Int)), ()) < μ (a, ())))) ∧
 (decide (a < (↑(List.length x.fst) : Int)) = false →
 ((↑(List.length x.fst) : Int) == (↑(List.length x.snd.fst) : Int)) = decide (x.fst = x.snd.fst))
theorem vcEq18 : fnVC E18 Try.f18 (bodyOf Try.f18) cSame = vc18 := by kernel_rfl
/- fn 20 -/
def hs20 : List (Nat × Nat × Hint) := [(0, 3, ⟨[.slot 3 t3, .slot 8 t3], [6, 7], [], []⟩)]
def nm20 : List Nat := []
noncomputable def E20 : Env := env tab [(28, cSize)] [] noGl hs20 nm20
def vc20 : Prop :=
 ∀ (x : List Chg × Unit),
 List.length x.fst ≤ maxLen →
 ((0 : Int) = (0 : Int) ∧
 (0 : Int) = (0 : Int) ∧ x.fst = x.fst ∧ (↑(List.length x.fst) : Int) = (↑(List.length x.fst) : Int)) ∧
 ∃ (Z : Int × Int × Unit → Prop),
 ∃ (μ : Int × Int × Unit → Nat),
 Z ((0 : Int), (0 : Int), ()) ∧
 ∀ (a a_1 : Int),
 Z (a, a_1, ()) →
 (decide (a_1 < (↑(List.length x.fst) : Int)) = true →
 ((0 : Int) ≤ a_1 ∧ a_1 < (↑(List.length x.fst) : Int)) ∧
 True ∧
 True ∧
 (IntKind.wrap IntKind.i64 (a_1 + (1 : Int)) = IntKind.wrap IntKind.i64 (a_1 + (1 : Int)) ∧
 IntKind.wrap IntKind.i64
 (a +
 IntKind.wrap IntKind.i64
 (size (List.getD x.fst (Int.toNat a_1) (Ty.dflt t56)).snd.fst -
 size (List.getD x.fst (Int.toNat a_1) (Ty.dflt t56)).fst)) =
 IntKind.wrap IntKind.i64
 (a +
 IntKind.wrap IntKind.i64
 (size (List.getD x.fst (Int.toNat a_1) (Ty.dflt t56)).snd.fst -
 size (List.getD x.fst (Int.toNat a_1) (Ty.dflt t56)).fst)) ∧
 x.fst = x.fst ∧ (↑(List.length x.fst) : Int) = (↑(List.length x.fst) : Int)) ∧
 Z
 (IntKind.wrap IntKind.i64
 (a +
 IntKind.wrap IntKind.i64
 (size (List.getD x.fst (Int.toNat a_1) (Ty.dflt t56)).snd.fst -
 size (List.getD x.fst (Int.toNat a_1) (Ty.dflt t56)).fst)),
 IntKind.wrap IntKind.i64 (a_1 + (1 : Int)), ()) ∧
 μ
 (IntKind.wrap IntKind.i64
 (a +
 IntKind.wrap IntKind.i64
 (size (List.getD x.fst (Int.toNat a_1) (Ty.dflt t56)).snd.fst -
 size (List.getD x.fst (Int.toNat a_1) (Ty.dflt t56)).fst)),
 IntKind.wrap IntKind.i64 (a_1 + (1 : Int)), ()) <
 μ (a, a_1, ())) ∧
 (decide (a_1 < (↑(List.length x.fst) : Int)) = false → a = delta x.fst)
theorem vcEq20 : fnVC E20 Try.f20 (bodyOf Try.f20) cDelta = vc20 := by kernel_rfl
/- fn 21 -/
def hs21 : List (Nat × Nat × Hint) := [(330024, 2, ⟨[.slot 330033 t3, .rowC 6 0 950000300 t56 56, .cell 7 0 t3, .cell 8 0 t3, .cell 330028 0 t3, .cell 330028 1 t3, .cell 330028 2 t3, .cell 330028 3 t3], [330025, 330028, 330031, 330032, 6], [330028, 3, 6, 7, 8], []⟩),
  (1000075, 2, ⟨[.slot 1000084 t3, .rowC 6 0 950000300 t56 56, .cell 7 0 t3, .cell 8 0 t3, .cell 1000079 0 t3, .cell 1000079 1 t3, .cell 1000079 2 t3, .cell 1000079 3 t3], [1000076, 1000079, 1000082, 1000083, 330025, 330028, 330030, 330031, 330032, 330033, 6], [1000079, 670069, 670070, 670071, 330028, 330030, 3, 6, 7, 8], []⟩),
  (1670126, 2, ⟨[.slot 1670135 t3, .rowC 6 0 950000300 t56 56, .cell 7 0 t3, .cell 8 0 t3, .cell 1670130 0 t3, .cell 1670130 1 t3, .cell 1670130 2 t3, .cell 1670130 3 t3], [1670127, 1670130, 1670133, 1670134, 1000076, 1000079, 1000081, 1000082, 1000083, 1000084, 330025, 330028, 330030, 330031, 330032, 330033, 6], [1670130, 1340120, 1340121, 1340122, 1000079, 1000081, 670069, 670070, 670071, 330028, 330030, 3, 6, 7, 8], []⟩),
  (2340177, 2, ⟨[.slot 2340186 t3, .rowC 6 0 950000300 t56 56, .cell 7 0 t3, .cell 8 0 t3, .cell 2340181 0 t3, .cell 2340181 1 t3, .cell 2340181 2 t3, .cell 2340181 3 t3], [2340178, 2340181, 2340184, 2340185, 1670127, 1670130, 1670132, 1670133, 1670134, 1670135, 1000076, 1000079, 1000081, 1000082, 1000083, 1000084, 330025, 330028, 330030, 330031, 330032, 330033, 6], [2340181, 2010171, 2010172, 2010173, 1670130, 1670132, 1340120, 1340121, 1340122, 1000079, 1000081, 670069, 670070, 670071, 330028, 330030, 3, 6, 7, 8], []⟩),
  (3010228, 2, ⟨[.slot 3010237 t3, .rowC 6 0 950000300 t56 56, .cell 7 0 t3, .cell 8 0 t3, .cell 3010232 0 t3, .cell 3010232 1 t3, .cell 3010232 2 t3, .cell 3010232 3 t3], [3010229, 3010232, 3010235, 3010236, 2340178, 2340181, 2340183, 2340184, 2340185, 2340186, 1670127, 1670130, 1670132, 1670133, 1670134, 1670135, 1000076, 1000079, 1000081, 1000082, 1000083, 1000084, 330025, 330028, 330030, 330031, 330032, 330033, 6], [3010232, 2680222, 2680223, 2680224, 2340181, 2340183, 2010171, 2010172, 2010173, 1670130, 1670132, 1340120, 1340121, 1340122, 1000079, 1000081, 670069, 670070, 670071, 330028, 330030, 3, 6, 7, 8], []⟩)]
def nm21 : List Nat := [680074, 680075, 680076, 680077, 680123, 680128, 1350125, 1350126, 1350127, 1350128, 1350174, 1350179, 2020176, 2020177, 2020178, 2020179, 2020225, 2020230, 2690227, 2690228, 2690229, 2690230, 2690276, 2690281]
noncomputable def E21 : Env := env tab [(13, cNormal)] [(33, Try.f33), (34, Try.f34), (32, Try.f32)] noGl hs21 nm21
def vc21 : Prop :=
 ∀
 (x :
 List Chg ×
 List Chg × Unit),
 List.length x.fst ≤ (10000 : Nat) ∧ List.length x.snd.fst ≤ (10000 : Nat) →
 List.length x.fst ≤ maxLen ∧
 ((!normal x.fst) = true → ([], (4 : Int), ()) = compose x.fst x.snd.fst) ∧
 ((!normal x.fst) = false →
 List.length x.snd.fst ≤ maxLen ∧
 ((!normal x.snd.fst) = true → ([], (4 : Int), ()) = compose x.fst x.snd.fst) ∧
 ((!normal x.snd.fst) = false →
 (((0 : Int) = (0 : Int) ∧
 (True ∧ True ∧ True ∧ True) ∧
 True ∧ x.fst = x.fst ∧ (↑(List.length x.fst) : Int) = (↑(List.length x.fst) : Int) ∧ True) ∧
 (((0 : Int) = (0 : Int) ∧ (0 : Int) = (0 : Int) ∧ (0 : Int) = (0 : Int) ∧ (0 : Int) = (0 : Int)) ∧
 x.snd.fst = x.snd.fst ∧ True ∧ (0 : Int) = (0 : Int) ∧ (0 : Int) = (0 : Int)) ∧
 True ∧ True) ∧
 ∃ (Z :
 Int ×
 List Chg ×
 Int × Int × Int × Int × Int × Int × Unit →
 Prop),
 ∃ (μ :
 Int ×
 List Chg ×
 Int × Int × Int × Int × Int × Int × Unit →
 Nat),
 Z ((0 : Int), [], (0 : Int), (0 : Int), (0 : Int), (0 : Int), (0 : Int), (0 : Int), ()) ∧
 ∀ (a : Int) (a_1 : List Chg)
 (a_2 a_3 a_4 a_5 a_6 a_7 : Int),
 Z (a, a_1, a_2, a_3, a_4, a_5, a_6, a_7, ()) →
 (decide (a < (↑(List.length x.fst) : Int)) = true →
 ((0 : Int) ≤ a ∧ a < (↑(List.length x.fst) : Int)) ∧
 (((0 : Int) = (0 : Int) ∧
 (True ∧ True ∧ True ∧ True ∧ True ∧ True) ∧
 True ∧
 x.snd.fst = x.snd.fst ∧
 (↑(List.length x.snd.fst) : Int) = (↑(List.length x.snd.fst) : Int) ∧
 (True ∧ True ∧ True ∧ True) ∧
 True ∧
 True ∧
 x.fst = x.fst ∧
 (↑(List.length x.fst) : Int) = (↑(List.length x.fst) : Int) ∧
 a = a ∧ True) ∧
 (((0 : Int) = (0 : Int) ∧
 (0 : Int) = (0 : Int) ∧ (0 : Int) = (0 : Int) ∧ (0 : Int) = (0 : Int)) ∧
 a_5 = a_5 ∧
 a_7 = a_7 ∧
 IntKind.wrap IntKind.i64
 ((List.getD x.fst (Int.toNat a) (Ty.dflt t56)).fst.fst - a_5) =
 IntKind.wrap IntKind.i64
 ((List.getD x.fst (Int.toNat a) (Ty.dflt t56)).fst.fst - a_5) ∧
 (a_4 = a_4 ∧ a_5 = a_5 ∧ a_6 = a_6 ∧ a_7 = a_7) ∧
 ((List.getD x.fst (Int.toNat a) (Ty.dflt t56)).fst.fst =
 (List.getD x.fst (Int.toNat a) (Ty.dflt t56)).fst.fst ∧
 (List.getD x.fst (Int.toNat a) (Ty.dflt t56)).fst.snd.fst =
 (List.getD x.fst (Int.toNat a) (Ty.dflt t56)).fst.snd.fst ∧
 (List.getD x.fst (Int.toNat a) (Ty.dflt t56)).snd.fst.fst =
 (List.getD x.fst (Int.toNat a) (Ty.dflt t56)).snd.fst.fst ∧
 (List.getD x.fst (Int.toNat a)
 (Ty.dflt t56)).snd.fst.snd.fst =
 (List.getD x.fst (Int.toNat a)
 (Ty.dflt t56)).snd.fst.snd.fst) ∧
 x.snd.fst = x.snd.fst ∧ True ∧ a_2 = a_2 ∧ a_3 = a_3) ∧
 a_1 = a_1 ∧ True) ∧
 ∃ (Z_1 :
 Int ×
 List Chg ×
 Int × Int × Int × Int × Int × Int × Unit →
 Prop),
 ∃ (μ_1 :
 Int ×
 List Chg ×
 Int × Int × Int × Int × Int × Int × Unit →
 Nat),
 Z_1 ((0 : Int), a_1, a_2, a_3, (0 : Int), (0 : Int), (0 : Int), (0 : Int), ()) ∧
 ∀ (a_10 : Int) (a_11 : List Chg)
 (a_12 a_13 a_14 a_15 a_16 a_17 : Int),
 Z_1 (a_10, a_11, a_12, a_13, a_14, a_15, a_16, a_17, ()) →
 (decide (a_10 < (↑(List.length x.snd.fst) : Int)) = true →
 ((0 : Int) ≤ a_10 ∧ a_10 < (↑(List.length x.snd.fst) : Int)) ∧
 ∀ (a_20 : Int),
 (a_20 = if a_7 < a_15 then a_15 else a_7) →
 ∀ (a_22 : Int),
 (a_22 =
 if
 IntKind.wrap IntKind.i64
 (a_15 +
 IntKind.wrap IntKind.i64
 ((List.getD x.snd.fst (Int.toNat a_10)
 (Ty.dflt t56)).fst.fst -
 a_15)) <
 IntKind.wrap IntKind.i64
 (a_7 +
 IntKind.wrap IntKind.i64
 ((List.getD x.fst (Int.toNat a)
 (Ty.dflt t56)).fst.fst -
 a_5)) then
 IntKind.wrap IntKind.i64
 (a_15 +
 IntKind.wrap IntKind.i64
 ((List.getD x.snd.fst (Int.toNat a_10)
 (Ty.dflt t56)).fst.fst -
 a_15))
 else
 IntKind.wrap IntKind.i64
 (a_7 +
 IntKind.wrap IntKind.i64
 ((List.getD x.fst (Int.toNat a)
 (Ty.dflt t56)).fst.fst -
 a_5))) →
 (decide (a_20 ≥ a_22) = true →
 ((IntKind.wrap IntKind.i64 (a_10 + (1 : Int)) =
 IntKind.wrap IntKind.i64 (a_10 + (1 : Int)) ∧
 (True ∧ True ∧ True ∧ True ∧ True ∧ True) ∧
 True ∧
 x.snd.fst = x.snd.fst ∧
 (↑(List.length x.snd.fst) : Int) =
 (↑(List.length x.snd.fst) : Int) ∧
 (True ∧ True ∧ True ∧ True) ∧
 True ∧
 True ∧
 x.fst = x.fst ∧
 (↑(List.length x.fst) : Int) =
 (↑(List.length x.fst) : Int) ∧
 a = a ∧ True) ∧
 (((List.getD x.snd.fst (Int.toNat a_10)
 (Ty.dflt t56)).fst.fst =
 (List.getD x.snd.fst (Int.toNat a_10)
 (Ty.dflt t56)).fst.fst ∧
 (List.getD x.snd.fst (Int.toNat a_10)
 (Ty.dflt t56)).fst.snd.fst =
 (List.getD x.snd.fst (Int.toNat a_10)
 (Ty.dflt t56)).fst.snd.fst ∧
 (List.getD x.snd.fst (Int.toNat a_10)
 (Ty.dflt t56)).snd.fst.fst =
 (List.getD x.snd.fst (Int.toNat a_10)
 (Ty.dflt t56)).snd.fst.fst ∧
 (List.getD x.snd.fst (Int.toNat a_10)
 (Ty.dflt
 t56)).snd.fst.snd.fst =
 (List.getD x.snd.fst (Int.toNat a_10)
 (Ty.dflt
 t56)).snd.fst.snd.fst) ∧
 a_5 = a_5 ∧
 a_7 = a_7 ∧
 IntKind.wrap IntKind.i64
 ((List.getD x.fst (Int.toNat a)
 (Ty.dflt t56)).fst.fst -
 a_5) =
 IntKind.wrap IntKind.i64
 ((List.getD x.fst (Int.toNat a)
 (Ty.dflt t56)).fst.fst -
 a_5) ∧
 (a_4 = a_4 ∧
 a_5 = a_5 ∧ a_6 = a_6 ∧ a_7 = a_7) ∧
 ((List.getD x.fst (Int.toNat a)
 (Ty.dflt t56)).fst.fst =
 (List.getD x.fst (Int.toNat a)
 (Ty.dflt t56)).fst.fst ∧
 (List.getD x.fst (Int.toNat a)
 (Ty.dflt
 t56)).fst.snd.fst =
 (List.getD x.fst (Int.toNat a)
 (Ty.dflt
 t56)).fst.snd.fst ∧
 (List.getD x.fst (Int.toNat a)
 (Ty.dflt
 t56)).snd.fst.fst =
 (List.getD x.fst (Int.toNat a)
 (Ty.dflt
 t56)).snd.fst.fst ∧
 (List.getD x.fst (Int.toNat a)
 (Ty.dflt
 t56)).snd.fst.snd.fst =
 (List.getD x.fst (Int.toNat a)
 (Ty.dflt
 t56)).snd.fst.snd.fst) ∧
 x.snd.fst = x.snd.fst ∧
 True ∧ a_12 = a_12 ∧ a_13 = a_13) ∧
 a_11 = a_11 ∧ True) ∧
 Z_1
 (IntKind.wrap IntKind.i64 (a_10 + (1 : Int)),
 a_11, a_12, a_13,
 (List.getD x.snd.fst (Int.toNat a_10)
 (Ty.dflt t56)).fst.fst,
 (List.getD x.snd.fst (Int.toNat a_10)
 (Ty.dflt t56)).fst.snd.fst,
 (List.getD x.snd.fst (Int.toNat a_10)
 (Ty.dflt t56)).snd.fst) ∧
 μ_1
 (IntKind.wrap IntKind.i64 (a_10 + (1 : Int)),
 a_11, a_12, a_13,
 (List.getD x.snd.fst (Int.toNat a_10)
 (Ty.dflt t56)).fst.fst,
 (List.getD x.snd.fst (Int.toNat a_10)
 (Ty.dflt t56)).fst.snd.fst,
 (List.getD x.snd.fst (Int.toNat a_10)
 (Ty.dflt t56)).snd.fst) <
 μ_1
 (a_10, a_11, a_12, a_13, a_14, a_15, a_16, a_17,
 ())) ∧
 (decide (a_20 ≥ a_22) = false →
 ∀ (a_25 : Int),
 a_25 =
 IntKind.wrap IntKind.i64
 (IntKind.wrap IntKind.i64 (a_5 + a_20) - a_7) →
 ∀ (a_27 : Int),
 a_27 =
 IntKind.wrap IntKind.i64
 (IntKind.wrap IntKind.i64 (a_17 + a_20) -
 a_15) →
 (decide (a_25 > a_12) = true →
 (List.length a_11 +
 List.length
 [((a_12, a_25, ()),
 (a_13, a_27, ()), ())]) *
 (32 : Nat) ≤
 (140737488355328 : Nat) ∧
 List.length a_11 +
 List.length
 [((a_12, a_25, ()),
 (a_13, a_27, ()), ())] ≤
 maxLen ∧
 ∀ (a_30 : Int),
 a_30 =
 IntKind.wrap IntKind.i64
 (IntKind.wrap IntKind.i64
 (a_25 + a_22) -
 a_20) →
 ∀ (a_32 : Int),
 a_32 =
 IntKind.wrap IntKind.i64
 (IntKind.wrap IntKind.i64
 (a_27 + a_22) -
 a_20) →
 ((IntKind.wrap IntKind.i64
 (a_10 + (1 : Int)) =
 IntKind.wrap IntKind.i64
 (a_10 + (1 : Int)) ∧
 (True ∧
 True ∧
 True ∧
 True ∧
 True ∧ True) ∧
 True ∧
 x.snd.fst =
 x.snd.fst ∧
 (↑(List.length
 x.snd.fst) :
 Int) =
 (↑(List.length
 x.snd.fst) :
 Int) ∧
 (True ∧
 True ∧
 True ∧
 True) ∧
 True ∧
 True ∧
 x.fst =
 x.fst ∧
 (↑(List.length
 x.fst) :
 Int) =
 (↑(List.length
 x.fst) :
 Int) ∧
 a = a ∧
 True) ∧
 (((List.getD x.snd.fst
 (Int.toNat
 a_10)
 (Ty.dflt
 t56)).fst.fst =
 (List.getD x.snd.fst
 (Int.toNat
 a_10)
 (Ty.dflt
 t56)).fst.fst ∧
 (List.getD x.snd.fst
 (Int.toNat
 a_10)
 (Ty.dflt
 t56)).fst.snd.fst =
 (List.getD
 x.snd.fst
 (Int.toNat
 a_10)
 (Ty.dflt
 t56)).fst.snd.fst ∧
 (List.getD x.snd.fst
 (Int.toNat
 a_10)
 (Ty.dflt
 t56)).snd.fst.fst =
 (List.getD
 x.snd.fst
 (Int.toNat
 a_10)
 (Ty.dflt
 t56)).snd.fst.fst ∧
 (List.getD
 x.snd.fst
 (Int.toNat
 a_10)
 (Ty.dflt
 t56)).snd.fst.snd.fst =
 (List.getD
 x.snd.fst
 (Int.toNat
 a_10)
 (Ty.dflt
 t56)).snd.fst.snd.fst) ∧
 a_5 = a_5 ∧
 a_7 = a_7 ∧
 IntKind.wrap
 IntKind.i64
 ((List.getD
 x.fst
 (Int.toNat
 a)
 (Ty.dflt
 t56)).fst.fst -
 a_5) =
 IntKind.wrap
 IntKind.i64
 ((List.getD
 x.fst
 (Int.toNat
 a)
 (Ty.dflt
 t56)).fst.fst -
 a_5) ∧
 (a_4 = a_4 ∧
 a_5 = a_5 ∧
 a_6 = a_6 ∧
 a_7 =
 a_7) ∧
 ((List.getD
 x.fst
 (Int.toNat
 a)
 (Ty.dflt
 t56)).fst.fst =
 (List.getD
 x.fst
 (Int.toNat
 a)
 (Ty.dflt
 t56)).fst.fst ∧
 (List.getD
 x.fst
 (Int.toNat
 a)
 (Ty.dflt
 t56)).fst.snd.fst =
 (List.getD
 x.fst
 (Int.toNat
 a)
 (Ty.dflt
 t56)).fst.snd.fst ∧
 (List.getD
 x.fst
 (Int.toNat
 a)
 (Ty.dflt
 t56)).snd.fst.fst =
 (List.getD
 x.fst
 (Int.toNat
 a)
 (Ty.dflt
 t56)).snd.fst.fst ∧
 (List.getD
 x.fst
 (Int.toNat
 a)
 (Ty.dflt
 t56)).snd.fst.snd.fst =
 (List.getD
 x.fst
 (Int.toNat
 a)
 (Ty.dflt
 t56)).snd.fst.snd.fst) ∧
 x.snd.fst =
 x.snd.fst ∧
 True ∧
 a_30 =
 a_30 ∧
 a_32 =
 a_32) ∧
 a_11 ++
 [((a_12, a_25, ()),
 (a_13, a_27,
 ()),
 ())] =
 a_11 ++
 [((a_12, a_25, ()),
 (a_13, a_27,
 ()),
 ())] ∧
 True) ∧
 Z_1
 (IntKind.wrap IntKind.i64
 (a_10 + (1 : Int)),
 a_11 ++
 [((a_12, a_25, ()),
 (a_13, a_27, ()),
 ())],
 a_30, a_32,
 (List.getD x.snd.fst
 (Int.toNat a_10)
 (Ty.dflt
 t56)).fst.fst,
 (List.getD x.snd.fst
 (Int.toNat a_10)
 (Ty.dflt
 t56)).fst.snd.fst,
 (List.getD x.snd.fst
 (Int.toNat a_10)
 (Ty.dflt
 t56)).snd.fst) ∧
 μ_1
 (IntKind.wrap
 IntKind.i64
 (a_10 + (1 : Int)),
 a_11 ++
 [((a_12, a_25, ()),
 (a_13, a_27,
 ()),
 ())],
 a_30, a_32,
 (List.getD x.snd.fst
 (Int.toNat a_10)
 (Ty.dflt
 t56)).fst.fst,
 (List.getD x.snd.fst
 (Int.toNat
 a_10)
 (Ty.dflt
 t56)).fst.snd.fst,
 (List.getD x.snd.fst
 (Int.toNat a_10)
 (Ty.dflt
 t56)).snd.fst) <
 μ_1
 (a_10, a_11, a_12, a_13,
 a_14, a_15, a_16,
 a_17, ())) ∧
 (decide (a_25 > a_12) = false →
 (decide (a_27 > a_13) = true →
 (List.length a_11 +
 List.length
 [((a_12, a_25, ()),
 (a_13, a_27, ()), ())]) *
 (32 : Nat) ≤
 (140737488355328 : Nat) ∧
 List.length a_11 +
 List.length
 [((a_12, a_25, ()),
 (a_13, a_27, ()), ())] ≤
 maxLen ∧
 ∀ (a_31 : Int),
 a_31 =
 IntKind.wrap IntKind.i64
 (IntKind.wrap IntKind.i64
 (a_25 + a_22) -
 a_20) →
 ∀ (a_33 : Int),
 a_33 =
 IntKind.wrap IntKind.i64
 (IntKind.wrap
 IntKind.i64
 (a_27 + a_22) -
 a_20) →
 ((IntKind.wrap IntKind.i64
 (a_10 +
 (1 : Int)) =
 IntKind.wrap
 IntKind.i64
 (a_10 +
 (1 : Int)) ∧
 (True ∧
 True ∧
 True ∧
 True ∧
 True ∧
 True) ∧
 True ∧
 x.snd.fst =
 x.snd.fst ∧
 (↑(List.length
 x.snd.fst) :
 Int) =
 (↑(List.length
 x.snd.fst) :
 Int) ∧
 (True ∧
 True ∧
 True ∧
 True) ∧
 True ∧
 True ∧
 x.fst =
 x.fst ∧
 (↑(List.length
 x.fst) :
 Int) =
 (↑(List.length
 x.fst) :
 Int) ∧
 a =
 a ∧
 True) ∧
 (((List.getD x.snd.fst
 (Int.toNat
 a_10)
 (Ty.dflt
 t56)).fst.fst =
 (List.getD
 x.snd.fst
 (Int.toNat
 a_10)
 (Ty.dflt
 t56)).fst.fst ∧
 (List.getD
 x.snd.fst
 (Int.toNat
 a_10)
 (Ty.dflt
 t56)).fst.snd.fst =
 (List.getD
 x.snd.fst
 (Int.toNat
 a_10)
 (Ty.dflt
 t56)).fst.snd.fst ∧
 (List.getD
 x.snd.fst
 (Int.toNat
 a_10)
 (Ty.dflt
 t56)).snd.fst.fst =
 (List.getD
 x.snd.fst
 (Int.toNat
 a_10)
 (Ty.dflt
 t56)).snd.fst.fst ∧
 (List.getD
 x.snd.fst
 (Int.toNat
 a_10)
 (Ty.dflt
 t56)).snd.fst.snd.fst =
 (List.getD
 x.snd.fst
 (Int.toNat
 a_10)
 (Ty.dflt
 t56)).snd.fst.snd.fst) ∧
 a_5 = a_5 ∧
 a_7 = a_7 ∧
 IntKind.wrap
 IntKind.i64
 ((List.getD
 x.fst
 (Int.toNat
 a)
 (Ty.dflt
 t56)).fst.fst -
 a_5) =
 IntKind.wrap
 IntKind.i64
 ((List.getD
 x.fst
 (Int.toNat
 a)
 (Ty.dflt
 t56)).fst.fst -
 a_5) ∧
 (a_4 = a_4 ∧
 a_5 =
 a_5 ∧
 a_6 =
 a_6 ∧
 a_7 =
 a_7) ∧
 ((List.getD
 x.fst
 (Int.toNat
 a)
 (Ty.dflt
 t56)).fst.fst =
 (List.getD
 x.fst
 (Int.toNat
 a)
 (Ty.dflt
 t56)).fst.fst ∧
 (List.getD
 x.fst
 (Int.toNat
 a)
 (Ty.dflt
 t56)).fst.snd.fst =
 (List.getD
 x.fst
 (Int.toNat
 a)
 (Ty.dflt
 t56)).fst.snd.fst ∧
 (List.getD
 x.fst
 (Int.toNat
 a)
 (Ty.dflt
 t56)).snd.fst.fst =
 (List.getD
 x.fst
 (Int.toNat
 a)
 (Ty.dflt
 t56)).snd.fst.fst ∧
 (List.getD
 x.fst
 (Int.toNat
 a)
 (Ty.dflt
 t56)).snd.fst.snd.fst =
 (List.getD
 x.fst
 (Int.toNat
 a)
 (Ty.dflt
 t56)).snd.fst.snd.fst) ∧
 x.snd.fst =
 x.snd.fst ∧
 True ∧
 a_31 =
 a_31 ∧
 a_33 =
 a_33) ∧
 a_11 ++
 [((a_12, a_25,
 ()),
 (a_13, a_27,
 ()),
 ())] =
 a_11 ++
 [((a_12, a_25,
 ()),
 (a_13, a_27,
 ()),
 ())] ∧
 True) ∧
 Z_1
 (IntKind.wrap
 IntKind.i64
 (a_10 +
 (1 : Int)),
 a_11 ++
 [((a_12, a_25,
 ()),
 (a_13, a_27,
 ()),
 ())],
 a_31, a_33,
 (List.getD x.snd.fst
 (Int.toNat
 a_10)
 (Ty.dflt
 t56)).fst.fst,
 (List.getD x.snd.fst
 (Int.toNat
 a_10)
 (Ty.dflt
 t56)).fst.snd.fst,
 (List.getD x.snd.fst
 (Int.toNat
 a_10)
 (Ty.dflt
 t56)).snd.fst) ∧
 μ_1
 (IntKind.wrap
 IntKind.i64
 (a_10 +
 (1 : Int)),
 a_11 ++
 [((a_12, a_25,
 ()),
 (a_13, a_27,
 ()),
 ())],
 a_31, a_33,
 (List.getD
 x.snd.fst
 (Int.toNat
 a_10)
 (Ty.dflt
 t56)).fst.fst,
 (List.getD
 x.snd.fst
 (Int.toNat
 a_10)
 (Ty.dflt
 t56)).fst.snd.fst,
 (List.getD
 x.snd.fst
 (Int.toNat
 a_10)
 (Ty.dflt
 t56)).snd.fst) <
 μ_1
 (a_10, a_11, a_12,
 a_13, a_14, a_15,
 a_16, a_17, ())) ∧
 (decide (a_27 > a_13) = false →
 ∀ (a_31 : Int),
 a_31 =
 IntKind.wrap IntKind.i64
 (IntKind.wrap IntKind.i64
 (a_25 + a_22) -
 a_20) →
 ∀ (a_33 : Int),
 a_33 =
 IntKind.wrap IntKind.i64
 (IntKind.wrap IntKind.i64
 (a_27 + a_22) -
 a_20) →
 ((IntKind.wrap IntKind.i64
 (a_10 + (1 : Int)) =
 IntKind.wrap IntKind.i64
 (a_10 + (1 : Int)) ∧
 (True ∧
 True ∧
 True ∧
 True ∧
 True ∧ True) ∧
 True ∧
 x.snd.fst =
 x.snd.fst ∧
 (↑(List.length
 x.snd.fst) :
 Int) =
 (↑(List.length
 x.snd.fst) :
 Int) ∧
 (True ∧
 True ∧
 True ∧
 True) ∧
 True ∧
 True ∧
 x.fst =
 x.fst ∧
 (↑(List.length
 x.fst) :
 Int) =
 (↑(List.length
 x.fst) :
 Int) ∧
 a = a ∧
 True) ∧
 (((List.getD x.snd.fst
 (Int.toNat
 a_10)
 (Ty.dflt
 t56)).fst.fst =
 (List.getD x.snd.fst
 (Int.toNat
 a_10)
 (Ty.dflt
 t56)).fst.fst ∧
 (List.getD x.snd.fst
 (Int.toNat
 a_10)
 (Ty.dflt
 t56)).fst.snd.fst =
 (List.getD
 x.snd.fst
 (Int.toNat
 a_10)
 (Ty.dflt
 t56)).fst.snd.fst ∧
 (List.getD x.snd.fst
 (Int.toNat
 a_10)
 (Ty.dflt
 t56)).snd.fst.fst =
 (List.getD
 x.snd.fst
 (Int.toNat
 a_10)
 (Ty.dflt
 t56)).snd.fst.fst ∧
 (List.getD
 x.snd.fst
 (Int.toNat
 a_10)
 (Ty.dflt
 t56)).snd.fst.snd.fst =
 (List.getD
 x.snd.fst
 (Int.toNat
 a_10)
 (Ty.dflt
 t56)).snd.fst.snd.fst) ∧
 a_5 = a_5 ∧
 a_7 = a_7 ∧
 IntKind.wrap
 IntKind.i64
 ((List.getD
 x.fst
 (Int.toNat
 a)
 (Ty.dflt
 t56)).fst.fst -
 a_5) =
 IntKind.wrap
 IntKind.i64
 ((List.getD
 x.fst
 (Int.toNat
 a)
 (Ty.dflt
 t56)).fst.fst -
 a_5) ∧
 (a_4 = a_4 ∧
 a_5 = a_5 ∧
 a_6 = a_6 ∧
 a_7 =
 a_7) ∧
 ((List.getD
 x.fst
 (Int.toNat
 a)
 (Ty.dflt
 t56)).fst.fst =
 (List.getD
 x.fst
 (Int.toNat
 a)
 (Ty.dflt
 t56)).fst.fst ∧
 (List.getD
 x.fst
 (Int.toNat
 a)
 (Ty.dflt
 t56)).fst.snd.fst =
 (List.getD
 x.fst
 (Int.toNat
 a)
 (Ty.dflt
 t56)).fst.snd.fst ∧
 (List.getD
 x.fst
 (Int.toNat
 a)
 (Ty.dflt
 t56)).snd.fst.fst =
 (List.getD
 x.fst
 (Int.toNat
 a)
 (Ty.dflt
 t56)).snd.fst.fst ∧
 (List.getD
 x.fst
 (Int.toNat
 a)
 (Ty.dflt
 t56)).snd.fst.snd.fst =
 (List.getD
 x.fst
 (Int.toNat
 a)
 (Ty.dflt
 t56)).snd.fst.snd.fst) ∧
 x.snd.fst =
 x.snd.fst ∧
 True ∧
 a_31 =
 a_31 ∧
 a_33 =
 a_33) ∧
 a_11 = a_11 ∧ True) ∧
 Z_1
 (IntKind.wrap IntKind.i64
 (a_10 + (1 : Int)),
 a_11, a_31, a_33,
 (List.getD x.snd.fst
 (Int.toNat a_10)
 (Ty.dflt
 t56)).fst.fst,
 (List.getD x.snd.fst
 (Int.toNat a_10)
 (Ty.dflt
 t56)).fst.snd.fst,
 (List.getD x.snd.fst
 (Int.toNat a_10)
 (Ty.dflt
 t56)).snd.fst) ∧
 μ_1
 (IntKind.wrap
 IntKind.i64
 (a_10 + (1 : Int)),
 a_11, a_31, a_33,
 (List.getD x.snd.fst
 (Int.toNat a_10)
 (Ty.dflt
 t56)).fst.fst,
 (List.getD x.snd.fst
 (Int.toNat
 a_10)
 (Ty.dflt
 t56)).fst.snd.fst,
 (List.getD x.snd.fst
 (Int.toNat a_10)
 (Ty.dflt
 t56)).snd.fst) <
 μ_1
 (a_10, a_11, a_12, a_13,
 a_14, a_15, a_16,
 a_17, ()))))) ∧
 (decide (a_10 < (↑(List.length x.snd.fst) : Int)) = false →
 ∀ (a_20 : Int),
 (a_20 = if a_7 < a_15 then a_15 else a_7) →
 ∀ (a_22 : Int),
 (a_22 =
 if
 IntKind.wrap IntKind.i64
 (a_15 + (2199023255552 : Int)) <
 IntKind.wrap IntKind.i64
 (a_7 +
 IntKind.wrap IntKind.i64
 ((List.getD x.fst (Int.toNat a)
 (Ty.dflt t56)).fst.fst -
 a_5)) then
 IntKind.wrap IntKind.i64 (a_15 + (2199023255552 : Int))
 else
 IntKind.wrap IntKind.i64
 (a_7 +
 IntKind.wrap IntKind.i64
 ((List.getD x.fst (Int.toNat a)
 (Ty.dflt t56)).fst.fst -
 a_5))) →
 (decide (a_20 ≥ a_22) = true →
 ((IntKind.wrap IntKind.i64 (a + (1 : Int)) =
 IntKind.wrap IntKind.i64 (a + (1 : Int)) ∧
 (True ∧ True ∧ True ∧ True) ∧
 True ∧
 x.fst = x.fst ∧
 (↑(List.length x.fst) : Int) =
 (↑(List.length x.fst) : Int) ∧
 True) ∧
 (((List.getD x.fst (Int.toNat a)
 (Ty.dflt t56)).fst.fst =
 (List.getD x.fst (Int.toNat a)
 (Ty.dflt t56)).fst.fst ∧
 (List.getD x.fst (Int.toNat a)
 (Ty.dflt t56)).fst.snd.fst =
 (List.getD x.fst (Int.toNat a)
 (Ty.dflt t56)).fst.snd.fst ∧
 (List.getD x.fst (Int.toNat a)
 (Ty.dflt t56)).snd.fst.fst =
 (List.getD x.fst (Int.toNat a)
 (Ty.dflt t56)).snd.fst.fst ∧
 (List.getD x.fst (Int.toNat a)
 (Ty.dflt t56)).snd.fst.snd.fst =
 (List.getD x.fst (Int.toNat a)
 (Ty.dflt
 t56)).snd.fst.snd.fst) ∧
 x.snd.fst = x.snd.fst ∧
 True ∧ a_12 = a_12 ∧ a_13 = a_13) ∧
 a_11 = a_11 ∧ True) ∧
 Z
 (IntKind.wrap IntKind.i64 (a + (1 : Int)), a_11,
 a_12, a_13,
 (List.getD x.fst (Int.toNat a)
 (Ty.dflt t56)).fst.fst,
 (List.getD x.fst (Int.toNat a)
 (Ty.dflt t56)).fst.snd.fst,
 (List.getD x.fst (Int.toNat a)
 (Ty.dflt t56)).snd.fst) ∧
 μ
 (IntKind.wrap IntKind.i64 (a + (1 : Int)), a_11,
 a_12, a_13,
 (List.getD x.fst (Int.toNat a)
 (Ty.dflt t56)).fst.fst,
 (List.getD x.fst (Int.toNat a)
 (Ty.dflt t56)).fst.snd.fst,
 (List.getD x.fst (Int.toNat a)
 (Ty.dflt t56)).snd.fst) <
 μ (a, a_1, a_2, a_3, a_4, a_5, a_6, a_7, ())) ∧
 (decide (a_20 ≥ a_22) = false →
 ∀ (a_25 : Int),
 a_25 =
 IntKind.wrap IntKind.i64
 (IntKind.wrap IntKind.i64 (a_5 + a_20) - a_7) →
 ∀ (a_27 : Int),
 a_27 =
 IntKind.wrap IntKind.i64
 (IntKind.wrap IntKind.i64 (a_17 + a_20) -
 a_15) →
 (decide (a_25 > a_12) = true →
 (List.length a_11 +
 List.length
 [((a_12, a_25, ()),
 (a_13, a_27, ()), ())]) *
 (32 : Nat) ≤
 (140737488355328 : Nat) ∧
 List.length a_11 +
 List.length
 [((a_12, a_25, ()),
 (a_13, a_27, ()), ())] ≤
 maxLen ∧
 ∀ (a_30 : Int),
 a_30 =
 IntKind.wrap IntKind.i64
 (IntKind.wrap IntKind.i64
 (a_25 + a_22) -
 a_20) →
 ∀ (a_32 : Int),
 a_32 =
 IntKind.wrap IntKind.i64
 (IntKind.wrap IntKind.i64
 (a_27 + a_22) -
 a_20) →
 ((IntKind.wrap IntKind.i64
 (a + (1 : Int)) =
 IntKind.wrap IntKind.i64
 (a + (1 : Int)) ∧
 (True ∧
 True ∧ True ∧ True) ∧
 True ∧
 x.fst = x.fst ∧
 (↑(List.length
 x.fst) :
 Int) =
 (↑(List.length
 x.fst) :
 Int) ∧
 True) ∧
 (((List.getD x.fst
 (Int.toNat a)
 (Ty.dflt
 t56)).fst.fst =
 (List.getD x.fst
 (Int.toNat a)
 (Ty.dflt
 t56)).fst.fst ∧
 (List.getD x.fst
 (Int.toNat
 a)
 (Ty.dflt
 t56)).fst.snd.fst =
 (List.getD x.fst
 (Int.toNat
 a)
 (Ty.dflt
 t56)).fst.snd.fst ∧
 (List.getD x.fst
 (Int.toNat
 a)
 (Ty.dflt
 t56)).snd.fst.fst =
 (List.getD x.fst
 (Int.toNat
 a)
 (Ty.dflt
 t56)).snd.fst.fst ∧
 (List.getD x.fst
 (Int.toNat
 a)
 (Ty.dflt
 t56)).snd.fst.snd.fst =
 (List.getD x.fst
 (Int.toNat
 a)
 (Ty.dflt
 t56)).snd.fst.snd.fst) ∧
 x.snd.fst = x.snd.fst ∧
 True ∧
 a_30 = a_30 ∧
 a_32 = a_32) ∧
 a_11 ++
 [((a_12, a_25, ()),
 (a_13, a_27, ()),
 ())] =
 a_11 ++
 [((a_12, a_25, ()),
 (a_13, a_27, ()),
 ())] ∧
 True) ∧
 Z
 (IntKind.wrap IntKind.i64
 (a + (1 : Int)),
 a_11 ++
 [((a_12, a_25, ()),
 (a_13, a_27, ()),
 ())],
 a_30, a_32,
 (List.getD x.fst
 (Int.toNat a)
 (Ty.dflt
 t56)).fst.fst,
 (List.getD x.fst
 (Int.toNat a)
 (Ty.dflt
 t56)).fst.snd.fst,
 (List.getD x.fst
 (Int.toNat a)
 (Ty.dflt
 t56)).snd.fst) ∧
 μ
 (IntKind.wrap IntKind.i64
 (a + (1 : Int)),
 a_11 ++
 [((a_12, a_25, ()),
 (a_13, a_27, ()),
 ())],
 a_30, a_32,
 (List.getD x.fst
 (Int.toNat a)
 (Ty.dflt
 t56)).fst.fst,
 (List.getD x.fst
 (Int.toNat a)
 (Ty.dflt
 t56)).fst.snd.fst,
 (List.getD x.fst
 (Int.toNat a)
 (Ty.dflt
 t56)).snd.fst) <
 μ
 (a, a_1, a_2, a_3, a_4,
 a_5, a_6, a_7, ())) ∧
 (decide (a_25 > a_12) = false →
 (decide (a_27 > a_13) = true →
 (List.length a_11 +
 List.length
 [((a_12, a_25, ()),
 (a_13, a_27, ()), ())]) *
 (32 : Nat) ≤
 (140737488355328 : Nat) ∧
 List.length a_11 +
 List.length
 [((a_12, a_25, ()),
 (a_13, a_27, ()), ())] ≤
 maxLen ∧
 ∀ (a_31 : Int),
 a_31 =
 IntKind.wrap IntKind.i64
 (IntKind.wrap IntKind.i64
 (a_25 + a_22) -
 a_20) →
 ∀ (a_33 : Int),
 a_33 =
 IntKind.wrap IntKind.i64
 (IntKind.wrap IntKind.i64
 (a_27 + a_22) -
 a_20) →
 ((IntKind.wrap IntKind.i64
 (a + (1 : Int)) =
 IntKind.wrap
 IntKind.i64
 (a + (1 : Int)) ∧
 (True ∧
 True ∧
 True ∧ True) ∧
 True ∧
 x.fst = x.fst ∧
 (↑(List.length
 x.fst) :
 Int) =
 (↑(List.length
 x.fst) :
 Int) ∧
 True) ∧
 (((List.getD x.fst
 (Int.toNat
 a)
 (Ty.dflt
 t56)).fst.fst =
 (List.getD x.fst
 (Int.toNat
 a)
 (Ty.dflt
 t56)).fst.fst ∧
 (List.getD x.fst
 (Int.toNat
 a)
 (Ty.dflt
 t56)).fst.snd.fst =
 (List.getD x.fst
 (Int.toNat
 a)
 (Ty.dflt
 t56)).fst.snd.fst ∧
 (List.getD x.fst
 (Int.toNat
 a)
 (Ty.dflt
 t56)).snd.fst.fst =
 (List.getD
 x.fst
 (Int.toNat
 a)
 (Ty.dflt
 t56)).snd.fst.fst ∧
 (List.getD x.fst
 (Int.toNat
 a)
 (Ty.dflt
 t56)).snd.fst.snd.fst =
 (List.getD
 x.fst
 (Int.toNat
 a)
 (Ty.dflt
 t56)).snd.fst.snd.fst) ∧
 x.snd.fst =
 x.snd.fst ∧
 True ∧
 a_31 = a_31 ∧
 a_33 = a_33) ∧
 a_11 ++
 [((a_12, a_25,
 ()),
 (a_13, a_27,
 ()),
 ())] =
 a_11 ++
 [((a_12, a_25,
 ()),
 (a_13, a_27,
 ()),
 ())] ∧
 True) ∧
 Z
 (IntKind.wrap
 IntKind.i64
 (a + (1 : Int)),
 a_11 ++
 [((a_12, a_25, ()),
 (a_13, a_27,
 ()),
 ())],
 a_31, a_33,
 (List.getD x.fst
 (Int.toNat a)
 (Ty.dflt
 t56)).fst.fst,
 (List.getD x.fst
 (Int.toNat a)
 (Ty.dflt
 t56)).fst.snd.fst,
 (List.getD x.fst
 (Int.toNat a)
 (Ty.dflt
 t56)).snd.fst) ∧
 μ
 (IntKind.wrap
 IntKind.i64
 (a + (1 : Int)),
 a_11 ++
 [((a_12, a_25,
 ()),
 (a_13, a_27,
 ()),
 ())],
 a_31, a_33,
 (List.getD x.fst
 (Int.toNat a)
 (Ty.dflt
 t56)).fst.fst,
 (List.getD x.fst
 (Int.toNat
 a)
 (Ty.dflt
 t56)).fst.snd.fst,
 (List.getD x.fst
 (Int.toNat a)
 (Ty.dflt
 t56)).snd.fst) <
 μ
 (a, a_1, a_2, a_3,
 a_4, a_5, a_6, a_7,
 ())) ∧
 (decide (a_27 > a_13) = false →
 ∀ (a_31 : Int),
 a_31 =
 IntKind.wrap IntKind.i64
 (IntKind.wrap IntKind.i64
 (a_25 + a_22) -
 a_20) →
 ∀ (a_33 : Int),
 a_33 =
 IntKind.wrap IntKind.i64
 (IntKind.wrap IntKind.i64
 (a_27 + a_22) -
 a_20) →
 ((IntKind.wrap IntKind.i64
 (a + (1 : Int)) =
 IntKind.wrap IntKind.i64
 (a + (1 : Int)) ∧
 (True ∧
 True ∧ True ∧ True) ∧
 True ∧
 x.fst = x.fst ∧
 (↑(List.length
 x.fst) :
 Int) =
 (↑(List.length
 x.fst) :
 Int) ∧
 True) ∧
 (((List.getD x.fst
 (Int.toNat a)
 (Ty.dflt
 t56)).fst.fst =
 (List.getD x.fst
 (Int.toNat a)
 (Ty.dflt
 t56)).fst.fst ∧
 (List.getD x.fst
 (Int.toNat
 a)
 (Ty.dflt
 t56)).fst.snd.fst =
 (List.getD x.fst
 (Int.toNat
 a)
 (Ty.dflt
 t56)).fst.snd.fst ∧
 (List.getD x.fst
 (Int.toNat
 a)
 (Ty.dflt
 t56)).snd.fst.fst =
 (List.getD x.fst
 (Int.toNat
 a)
 (Ty.dflt
 t56)).snd.fst.fst ∧
 (List.getD x.fst
 (Int.toNat
 a)
 (Ty.dflt
 t56)).snd.fst.snd.fst =
 (List.getD x.fst
 (Int.toNat
 a)
 (Ty.dflt
 t56)).snd.fst.snd.fst) ∧
 x.snd.fst = x.snd.fst ∧
 True ∧
 a_31 = a_31 ∧
 a_33 = a_33) ∧
 a_11 = a_11 ∧ True) ∧
 Z
 (IntKind.wrap IntKind.i64
 (a + (1 : Int)),
 a_11, a_31, a_33,
 (List.getD x.fst
 (Int.toNat a)
 (Ty.dflt
 t56)).fst.fst,
 (List.getD x.fst
 (Int.toNat a)
 (Ty.dflt
 t56)).fst.snd.fst,
 (List.getD x.fst
 (Int.toNat a)
 (Ty.dflt
 t56)).snd.fst) ∧
 μ
 (IntKind.wrap IntKind.i64
 (a + (1 : Int)),
 a_11, a_31, a_33,
 (List.getD x.fst
 (Int.toNat a)
 (Ty.dflt
 t56)).fst.fst,
 (List.getD x.fst
 (Int.toNat a)
 (Ty.dflt
 t56)).fst.snd.fst,
 (List.getD x.fst
 (Int.toNat a)
 (Ty.dflt
 t56)).snd.fst) <
 μ
 (a, a_1, a_2, a_3, a_4,
 a_5, a_6, a_7,
 ())))))) ∧
 (decide (a < (↑(List.length x.fst) : Int)) = false →
 (((0 : Int) = (0 : Int) ∧
 (True ∧ True ∧ True ∧ True ∧ True ∧ True) ∧
 True ∧
 x.snd.fst = x.snd.fst ∧
 (↑(List.length x.snd.fst) : Int) = (↑(List.length x.snd.fst) : Int) ∧
 (True ∧ True ∧ True ∧ True) ∧
 True ∧
 True ∧
 x.fst = x.fst ∧
 (↑(List.length x.fst) : Int) = (↑(List.length x.fst) : Int) ∧
 a = a ∧ True) ∧
 (((0 : Int) = (0 : Int) ∧
 (0 : Int) = (0 : Int) ∧ (0 : Int) = (0 : Int) ∧ (0 : Int) = (0 : Int)) ∧
 a_5 = a_5 ∧
 a_7 = a_7 ∧
 (2199023255552 : Int) = (2199023255552 : Int) ∧
 (a_4 = a_4 ∧ a_5 = a_5 ∧ a_6 = a_6 ∧ a_7 = a_7) ∧
 x.snd.fst = x.snd.fst ∧ True ∧ a_2 = a_2 ∧ a_3 = a_3) ∧
 a_1 = a_1 ∧ True) ∧
 ∃ (Z :
 Int ×
 List Chg ×
 Int × Int × Int × Int × Int × Int × Unit →
 Prop),
 ∃ (μ :
 Int ×
 List Chg ×
 Int × Int × Int × Int × Int × Int × Unit →
 Nat),
 Z ((0 : Int), a_1, a_2, a_3, (0 : Int), (0 : Int), (0 : Int), (0 : Int), ()) ∧
 ∀ (a_10 : Int) (a_11 : List Chg)
 (a_12 a_13 a_14 a_15 a_16 a_17 : Int),
 Z (a_10, a_11, a_12, a_13, a_14, a_15, a_16, a_17, ()) →
 (decide (a_10 < (↑(List.length x.snd.fst) : Int)) = true →
 ((0 : Int) ≤ a_10 ∧ a_10 < (↑(List.length x.snd.fst) : Int)) ∧
 ∀ (a_20 : Int),
 (a_20 = if a_7 < a_15 then a_15 else a_7) →
 ∀ (a_22 : Int),
 (a_22 =
 if
 IntKind.wrap IntKind.i64
 (a_15 +
 IntKind.wrap IntKind.i64
 ((List.getD x.snd.fst (Int.toNat a_10)
 (Ty.dflt t56)).fst.fst -
 a_15)) <
 IntKind.wrap IntKind.i64
 (a_7 + (2199023255552 : Int)) then
 IntKind.wrap IntKind.i64
 (a_15 +
 IntKind.wrap IntKind.i64
 ((List.getD x.snd.fst (Int.toNat a_10)
 (Ty.dflt t56)).fst.fst -
 a_15))
 else
 IntKind.wrap IntKind.i64 (a_7 + (2199023255552 : Int))) →
 (decide (a_20 ≥ a_22) = true →
 ((IntKind.wrap IntKind.i64 (a_10 + (1 : Int)) =
 IntKind.wrap IntKind.i64 (a_10 + (1 : Int)) ∧
 (True ∧ True ∧ True ∧ True ∧ True ∧ True) ∧
 True ∧
 x.snd.fst = x.snd.fst ∧
 (↑(List.length x.snd.fst) : Int) =
 (↑(List.length x.snd.fst) : Int) ∧
 (True ∧ True ∧ True ∧ True) ∧
 True ∧
 True ∧
 x.fst = x.fst ∧
 (↑(List.length x.fst) : Int) =
 (↑(List.length x.fst) : Int) ∧
 a = a ∧ True) ∧
 (((List.getD x.snd.fst (Int.toNat a_10)
 (Ty.dflt t56)).fst.fst =
 (List.getD x.snd.fst (Int.toNat a_10)
 (Ty.dflt t56)).fst.fst ∧
 (List.getD x.snd.fst (Int.toNat a_10)
 (Ty.dflt t56)).fst.snd.fst =
 (List.getD x.snd.fst (Int.toNat a_10)
 (Ty.dflt t56)).fst.snd.fst ∧
 (List.getD x.snd.fst (Int.toNat a_10)
 (Ty.dflt t56)).snd.fst.fst =
 (List.getD x.snd.fst (Int.toNat a_10)
 (Ty.dflt t56)).snd.fst.fst ∧
 (List.getD x.snd.fst (Int.toNat a_10)
 (Ty.dflt t56)).snd.fst.snd.fst =
 (List.getD x.snd.fst (Int.toNat a_10)
 (Ty.dflt
 t56)).snd.fst.snd.fst) ∧
 a_5 = a_5 ∧
 a_7 = a_7 ∧
 (2199023255552 : Int) =
 (2199023255552 : Int) ∧
 (a_4 = a_4 ∧
 a_5 = a_5 ∧ a_6 = a_6 ∧ a_7 = a_7) ∧
 x.snd.fst = x.snd.fst ∧
 True ∧ a_12 = a_12 ∧ a_13 = a_13) ∧
 a_11 = a_11 ∧ True) ∧
 Z
 (IntKind.wrap IntKind.i64 (a_10 + (1 : Int)), a_11,
 a_12, a_13,
 (List.getD x.snd.fst (Int.toNat a_10)
 (Ty.dflt t56)).fst.fst,
 (List.getD x.snd.fst (Int.toNat a_10)
 (Ty.dflt t56)).fst.snd.fst,
 (List.getD x.snd.fst (Int.toNat a_10)
 (Ty.dflt t56)).snd.fst) ∧
 μ
 (IntKind.wrap IntKind.i64 (a_10 + (1 : Int)),
 a_11, a_12, a_13,
 (List.getD x.snd.fst (Int.toNat a_10)
 (Ty.dflt t56)).fst.fst,
 (List.getD x.snd.fst (Int.toNat a_10)
 (Ty.dflt t56)).fst.snd.fst,
 (List.getD x.snd.fst (Int.toNat a_10)
 (Ty.dflt t56)).snd.fst) <
 μ
 (a_10, a_11, a_12, a_13, a_14, a_15, a_16, a_17,
 ())) ∧
 (decide (a_20 ≥ a_22) = false →
 ∀ (a_25 : Int),
 a_25 =
 IntKind.wrap IntKind.i64
 (IntKind.wrap IntKind.i64 (a_5 + a_20) - a_7) →
 ∀ (a_27 : Int),
 a_27 =
 IntKind.wrap IntKind.i64
 (IntKind.wrap IntKind.i64 (a_17 + a_20) -
 a_15) →
 (decide (a_25 > a_12) = true →
 (List.length a_11 +
 List.length
 [((a_12, a_25, ()),
 (a_13, a_27, ()), ())]) *
 (32 : Nat) ≤
 (140737488355328 : Nat) ∧
 List.length a_11 +
 List.length
 [((a_12, a_25, ()),
 (a_13, a_27, ()), ())] ≤
 maxLen ∧
 ∀ (a_30 : Int),
 a_30 =
 IntKind.wrap IntKind.i64
 (IntKind.wrap IntKind.i64
 (a_25 + a_22) -
 a_20) →
 ∀ (a_32 : Int),
 a_32 =
 IntKind.wrap IntKind.i64
 (IntKind.wrap IntKind.i64
 (a_27 + a_22) -
 a_20) →
 ((IntKind.wrap IntKind.i64
 (a_10 + (1 : Int)) =
 IntKind.wrap IntKind.i64
 (a_10 + (1 : Int)) ∧
 (True ∧
 True ∧
 True ∧
 True ∧
 True ∧ True) ∧
 True ∧
 x.snd.fst = x.snd.fst ∧
 (↑(List.length
 x.snd.fst) :
 Int) =
 (↑(List.length
 x.snd.fst) :
 Int) ∧
 (True ∧
 True ∧
 True ∧ True) ∧
 True ∧
 True ∧
 x.fst =
 x.fst ∧
 (↑(List.length
 x.fst) :
 Int) =
 (↑(List.length
 x.fst) :
 Int) ∧
 a = a ∧
 True) ∧
 (((List.getD x.snd.fst
 (Int.toNat a_10)
 (Ty.dflt
 t56)).fst.fst =
 (List.getD x.snd.fst
 (Int.toNat a_10)
 (Ty.dflt
 t56)).fst.fst ∧
 (List.getD x.snd.fst
 (Int.toNat
 a_10)
 (Ty.dflt
 t56)).fst.snd.fst =
 (List.getD x.snd.fst
 (Int.toNat
 a_10)
 (Ty.dflt
 t56)).fst.snd.fst ∧
 (List.getD x.snd.fst
 (Int.toNat
 a_10)
 (Ty.dflt
 t56)).snd.fst.fst =
 (List.getD
 x.snd.fst
 (Int.toNat
 a_10)
 (Ty.dflt
 t56)).snd.fst.fst ∧
 (List.getD x.snd.fst
 (Int.toNat
 a_10)
 (Ty.dflt
 t56)).snd.fst.snd.fst =
 (List.getD
 x.snd.fst
 (Int.toNat
 a_10)
 (Ty.dflt
 t56)).snd.fst.snd.fst) ∧
 a_5 = a_5 ∧
 a_7 = a_7 ∧
 (2199023255552 :
 Int) =
 (2199023255552 :
 Int) ∧
 (a_4 = a_4 ∧
 a_5 = a_5 ∧
 a_6 = a_6 ∧
 a_7 = a_7) ∧
 x.snd.fst =
 x.snd.fst ∧
 True ∧
 a_30 = a_30 ∧
 a_32 =
 a_32) ∧
 a_11 ++
 [((a_12, a_25, ()),
 (a_13, a_27, ()),
 ())] =
 a_11 ++
 [((a_12, a_25, ()),
 (a_13, a_27, ()),
 ())] ∧
 True) ∧
 Z
 (IntKind.wrap IntKind.i64
 (a_10 + (1 : Int)),
 a_11 ++
 [((a_12, a_25, ()),
 (a_13, a_27, ()),
 ())],
 a_30, a_32,
 (List.getD x.snd.fst
 (Int.toNat a_10)
 (Ty.dflt
 t56)).fst.fst,
 (List.getD x.snd.fst
 (Int.toNat a_10)
 (Ty.dflt
 t56)).fst.snd.fst,
 (List.getD x.snd.fst
 (Int.toNat a_10)
 (Ty.dflt
 t56)).snd.fst) ∧
 μ
 (IntKind.wrap IntKind.i64
 (a_10 + (1 : Int)),
 a_11 ++
 [((a_12, a_25, ()),
 (a_13, a_27, ()),
 ())],
 a_30, a_32,
 (List.getD x.snd.fst
 (Int.toNat a_10)
 (Ty.dflt
 t56)).fst.fst,
 (List.getD x.snd.fst
 (Int.toNat a_10)
 (Ty.dflt
 t56)).fst.snd.fst,
 (List.getD x.snd.fst
 (Int.toNat a_10)
 (Ty.dflt
 t56)).snd.fst) <
 μ
 (a_10, a_11, a_12, a_13,
 a_14, a_15, a_16, a_17,
 ())) ∧
 (decide (a_25 > a_12) = false →
 (decide (a_27 > a_13) = true →
 (List.length a_11 +
 List.length
 [((a_12, a_25, ()),
 (a_13, a_27, ()), ())]) *
 (32 : Nat) ≤
 (140737488355328 : Nat) ∧
 List.length a_11 +
 List.length
 [((a_12, a_25, ()),
 (a_13, a_27, ()), ())] ≤
 maxLen ∧
 ∀ (a_31 : Int),
 a_31 =
 IntKind.wrap IntKind.i64
 (IntKind.wrap IntKind.i64
 (a_25 + a_22) -
 a_20) →
 ∀ (a_33 : Int),
 a_33 =
 IntKind.wrap IntKind.i64
 (IntKind.wrap IntKind.i64
 (a_27 + a_22) -
 a_20) →
 ((IntKind.wrap IntKind.i64
 (a_10 + (1 : Int)) =
 IntKind.wrap
 IntKind.i64
 (a_10 + (1 : Int)) ∧
 (True ∧
 True ∧
 True ∧
 True ∧
 True ∧ True) ∧
 True ∧
 x.snd.fst =
 x.snd.fst ∧
 (↑(List.length
 x.snd.fst) :
 Int) =
 (↑(List.length
 x.snd.fst) :
 Int) ∧
 (True ∧
 True ∧
 True ∧
 True) ∧
 True ∧
 True ∧
 x.fst =
 x.fst ∧
 (↑(List.length
 x.fst) :
 Int) =
 (↑(List.length
 x.fst) :
 Int) ∧
 a =
 a ∧
 True) ∧
 (((List.getD x.snd.fst
 (Int.toNat
 a_10)
 (Ty.dflt
 t56)).fst.fst =
 (List.getD
 x.snd.fst
 (Int.toNat
 a_10)
 (Ty.dflt
 t56)).fst.fst ∧
 (List.getD x.snd.fst
 (Int.toNat
 a_10)
 (Ty.dflt
 t56)).fst.snd.fst =
 (List.getD
 x.snd.fst
 (Int.toNat
 a_10)
 (Ty.dflt
 t56)).fst.snd.fst ∧
 (List.getD
 x.snd.fst
 (Int.toNat
 a_10)
 (Ty.dflt
 t56)).snd.fst.fst =
 (List.getD
 x.snd.fst
 (Int.toNat
 a_10)
 (Ty.dflt
 t56)).snd.fst.fst ∧
 (List.getD
 x.snd.fst
 (Int.toNat
 a_10)
 (Ty.dflt
 t56)).snd.fst.snd.fst =
 (List.getD
 x.snd.fst
 (Int.toNat
 a_10)
 (Ty.dflt
 t56)).snd.fst.snd.fst) ∧
 a_5 = a_5 ∧
 a_7 = a_7 ∧
 (2199023255552 :
 Int) =
 (2199023255552 :
 Int) ∧
 (a_4 = a_4 ∧
 a_5 = a_5 ∧
 a_6 =
 a_6 ∧
 a_7 =
 a_7) ∧
 x.snd.fst =
 x.snd.fst ∧
 True ∧
 a_31 =
 a_31 ∧
 a_33 =
 a_33) ∧
 a_11 ++
 [((a_12, a_25,
 ()),
 (a_13, a_27,
 ()),
 ())] =
 a_11 ++
 [((a_12, a_25,
 ()),
 (a_13, a_27,
 ()),
 ())] ∧
 True) ∧
 Z
 (IntKind.wrap
 IntKind.i64
 (a_10 + (1 : Int)),
 a_11 ++
 [((a_12, a_25, ()),
 (a_13, a_27,
 ()),
 ())],
 a_31, a_33,
 (List.getD x.snd.fst
 (Int.toNat a_10)
 (Ty.dflt
 t56)).fst.fst,
 (List.getD x.snd.fst
 (Int.toNat
 a_10)
 (Ty.dflt
 t56)).fst.snd.fst,
 (List.getD x.snd.fst
 (Int.toNat a_10)
 (Ty.dflt
 t56)).snd.fst) ∧
 μ
 (IntKind.wrap
 IntKind.i64
 (a_10 +
 (1 : Int)),
 a_11 ++
 [((a_12, a_25,
 ()),
 (a_13, a_27,
 ()),
 ())],
 a_31, a_33,
 (List.getD x.snd.fst
 (Int.toNat
 a_10)
 (Ty.dflt
 t56)).fst.fst,
 (List.getD x.snd.fst
 (Int.toNat
 a_10)
 (Ty.dflt
 t56)).fst.snd.fst,
 (List.getD x.snd.fst
 (Int.toNat
 a_10)
 (Ty.dflt
 t56)).snd.fst) <
 μ
 (a_10, a_11, a_12,
 a_13, a_14, a_15,
 a_16, a_17, ())) ∧
 (decide (a_27 > a_13) = false →
 ∀ (a_31 : Int),
 a_31 =
 IntKind.wrap IntKind.i64
 (IntKind.wrap IntKind.i64
 (a_25 + a_22) -
 a_20) →
 ∀ (a_33 : Int),
 a_33 =
 IntKind.wrap IntKind.i64
 (IntKind.wrap IntKind.i64
 (a_27 + a_22) -
 a_20) →
 ((IntKind.wrap IntKind.i64
 (a_10 + (1 : Int)) =
 IntKind.wrap IntKind.i64
 (a_10 + (1 : Int)) ∧
 (True ∧
 True ∧
 True ∧
 True ∧
 True ∧ True) ∧
 True ∧
 x.snd.fst = x.snd.fst ∧
 (↑(List.length
 x.snd.fst) :
 Int) =
 (↑(List.length
 x.snd.fst) :
 Int) ∧
 (True ∧
 True ∧
 True ∧ True) ∧
 True ∧
 True ∧
 x.fst =
 x.fst ∧
 (↑(List.length
 x.fst) :
 Int) =
 (↑(List.length
 x.fst) :
 Int) ∧
 a = a ∧
 True) ∧
 (((List.getD x.snd.fst
 (Int.toNat a_10)
 (Ty.dflt
 t56)).fst.fst =
 (List.getD x.snd.fst
 (Int.toNat a_10)
 (Ty.dflt
 t56)).fst.fst ∧
 (List.getD x.snd.fst
 (Int.toNat
 a_10)
 (Ty.dflt
 t56)).fst.snd.fst =
 (List.getD x.snd.fst
 (Int.toNat
 a_10)
 (Ty.dflt
 t56)).fst.snd.fst ∧
 (List.getD x.snd.fst
 (Int.toNat
 a_10)
 (Ty.dflt
 t56)).snd.fst.fst =
 (List.getD
 x.snd.fst
 (Int.toNat
 a_10)
 (Ty.dflt
 t56)).snd.fst.fst ∧
 (List.getD x.snd.fst
 (Int.toNat
 a_10)
 (Ty.dflt
 t56)).snd.fst.snd.fst =
 (List.getD
 x.snd.fst
 (Int.toNat
 a_10)
 (Ty.dflt
 t56)).snd.fst.snd.fst) ∧
 a_5 = a_5 ∧
 a_7 = a_7 ∧
 (2199023255552 :
 Int) =
 (2199023255552 :
 Int) ∧
 (a_4 = a_4 ∧
 a_5 = a_5 ∧
 a_6 = a_6 ∧
 a_7 = a_7) ∧
 x.snd.fst =
 x.snd.fst ∧
 True ∧
 a_31 = a_31 ∧
 a_33 =
 a_33) ∧
 a_11 = a_11 ∧ True) ∧
 Z
 (IntKind.wrap IntKind.i64
 (a_10 + (1 : Int)),
 a_11, a_31, a_33,
 (List.getD x.snd.fst
 (Int.toNat a_10)
 (Ty.dflt
 t56)).fst.fst,
 (List.getD x.snd.fst
 (Int.toNat a_10)
 (Ty.dflt
 t56)).fst.snd.fst,
 (List.getD x.snd.fst
 (Int.toNat a_10)
 (Ty.dflt
 t56)).snd.fst) ∧
 μ
 (IntKind.wrap IntKind.i64
 (a_10 + (1 : Int)),
 a_11, a_31, a_33,
 (List.getD x.snd.fst
 (Int.toNat a_10)
 (Ty.dflt
 t56)).fst.fst,
 (List.getD x.snd.fst
 (Int.toNat a_10)
 (Ty.dflt
 t56)).fst.snd.fst,
 (List.getD x.snd.fst
 (Int.toNat a_10)
 (Ty.dflt
 t56)).snd.fst) <
 μ
 (a_10, a_11, a_12, a_13,
 a_14, a_15, a_16, a_17,
 ()))))) ∧
 (decide (a_10 < (↑(List.length x.snd.fst) : Int)) = false →
 ∀ (a : Int),
 (a = if a_7 < a_15 then a_15 else a_7) →
 ∀ (a_20 : Int),
 (a_20 =
 if
 IntKind.wrap IntKind.i64 (a_15 + (2199023255552 : Int)) <
 IntKind.wrap IntKind.i64
 (a_7 + (2199023255552 : Int)) then
 IntKind.wrap IntKind.i64 (a_15 + (2199023255552 : Int))
 else IntKind.wrap IntKind.i64 (a_7 + (2199023255552 : Int))) →
 (decide (a ≥ a_20) = true →
 List.length a_11 ≤ maxLen ∧
 ((!normal a_11) = true →
 ([], (5 : Int), ()) = compose x.fst x.snd.fst) ∧
 ((!normal a_11) = false →
 (a_11, (0 : Int), ()) = compose x.fst x.snd.fst)) ∧
 (decide (a ≥ a_20) = false →
 ∀ (a_23 : Int),
 a_23 =
 IntKind.wrap IntKind.i64
 (IntKind.wrap IntKind.i64 (a_5 + a) - a_7) →
 ∀ (a_25 : Int),
 a_25 =
 IntKind.wrap IntKind.i64
 (IntKind.wrap IntKind.i64 (a_17 + a) - a_15) →
 (decide (a_23 > a_12) = true →
 (List.length a_11 +
 List.length
 [((a_12, a_23, ()), (a_13, a_25, ()),
 ())]) *
 (32 : Nat) ≤
 (140737488355328 : Nat) ∧
 List.length a_11 +
 List.length
 [((a_12, a_23, ()), (a_13, a_25, ()),
 ())] ≤
 maxLen ∧
 ∀ (a_28 : Int),
 a_28 =
 IntKind.wrap IntKind.i64
 (IntKind.wrap IntKind.i64
 (a_23 + a_20) -
 a) →
 ∀ (a_30 : Int),
 a_30 =
 IntKind.wrap IntKind.i64
 (IntKind.wrap IntKind.i64
 (a_25 + a_20) -
 a) →
 List.length
 (a_11 ++
 [((a_12, a_23, ()),
 (a_13, a_25, ()),
 ())]) ≤
 maxLen ∧
 ((!normal
 (a_11 ++
 [((a_12, a_23, ()),
 (a_13, a_25, ()),
 ())])) =
 true →
 ([], (5 : Int), ()) =
 compose x.fst x.snd.fst) ∧
 ((!normal
 (a_11 ++
 [((a_12, a_23, ()),
 (a_13, a_25, ()),
 ())])) =
 false →
 (a_11 ++
 [((a_12, a_23, ()),
 (a_13, a_25, ()),
 ())],
 (0 : Int), ()) =
 compose x.fst x.snd.fst)) ∧
 (decide (a_23 > a_12) = false →
 (decide (a_25 > a_13) = true →
 (List.length a_11 +
 List.length
 [((a_12, a_23, ()),
 (a_13, a_25, ()), ())]) *
 (32 : Nat) ≤
 (140737488355328 : Nat) ∧
 List.length a_11 +
 List.length
 [((a_12, a_23, ()),
 (a_13, a_25, ()), ())] ≤
 maxLen ∧
 ∀ (a_29 : Int),
 a_29 =
 IntKind.wrap IntKind.i64
 (IntKind.wrap IntKind.i64
 (a_23 + a_20) -
 a) →
 ∀ (a_31 : Int),
 a_31 =
 IntKind.wrap IntKind.i64
 (IntKind.wrap IntKind.i64
 (a_25 + a_20) -
 a) →
 List.length
 (a_11 ++
 [((a_12, a_23, ()),
 (a_13, a_25, ()),
 ())]) ≤
 maxLen ∧
 ((!normal
 (a_11 ++
 [((a_12, a_23,
 ()),
 (a_13, a_25,
 ()),
 ())])) =
 true →
 ([], (5 : Int), ()) =
 compose x.fst
 x.snd.fst) ∧
 ((!normal
 (a_11 ++
 [((a_12, a_23,
 ()),
 (a_13, a_25,
 ()),
 ())])) =
 false →
 (a_11 ++
 [((a_12, a_23, ()),
 (a_13, a_25,
 ()),
 ())],
 (0 : Int), ()) =
 compose x.fst
 x.snd.fst)) ∧
 (decide (a_25 > a_13) = false →
 ∀ (a_29 : Int),
 a_29 =
 IntKind.wrap IntKind.i64
 (IntKind.wrap IntKind.i64
 (a_23 + a_20) -
 a) →
 ∀ (a_31 : Int),
 a_31 =
 IntKind.wrap IntKind.i64
 (IntKind.wrap IntKind.i64
 (a_25 + a_20) -
 a) →
 List.length a_11 ≤ maxLen ∧
 ((!normal a_11) = true →
 ([], (5 : Int), ()) =
 compose x.fst x.snd.fst) ∧
 ((!normal a_11) = false →
 (a_11, (0 : Int), ()) =
 compose x.fst
 x.snd.fst))))))))
theorem vcEq21 : fnVC E21 Try.f21 (bodyOf Try.f21) cCompose = vc21 := by kernel_rfl
/- fn 22 -/
def hs22 : List (Nat × Nat × Hint) := [(0, 4, ⟨[.slot 16 t3], [14, 15], [], []⟩)]
def nm22 : List Nat := []
noncomputable def E22 : Env := env tab [(11, cRefs), (10, cNormal)] [] noGl hs22 nm22
def vc22 : Prop :=
 ∀ (x : List Chg × Unit),
 List.length x.fst ≤ maxLen →
 (decide ((↑(List.length x.fst) : Int) > (60 : Int)) = true → false = small x.fst) ∧
 (decide ((↑(List.length x.fst) : Int) > (60 : Int)) = false →
 List.length x.fst ≤ (1000000000 : Nat) ∧
 List.length x.fst ≤ maxLen ∧
 ((!normal x.fst) = true → false = small x.fst) ∧
 ((!normal x.fst) = false →
 ((0 : Int) = (0 : Int) ∧ x.fst = x.fst ∧ (↑(List.length x.fst) : Int) = (↑(List.length x.fst) : Int)) ∧
 ∃ (Z : Int × Unit → Prop),
 ∃ (μ : Int × Unit → Nat),
 Z ((0 : Int), ()) ∧
 ∀ (a : Int),
 Z (a, ()) →
 (decide (a < (↑(List.length x.fst) : Int)) = true →
 ((0 : Int) ≤ a ∧ a < (↑(List.length x.fst) : Int)) ∧
 (decide ((List.getD x.fst (Int.toNat a) (Ty.dflt t56)).fst.snd.fst > (2000 : Int)) =
 true →
 false = small x.fst) ∧
 (decide ((List.getD x.fst (Int.toNat a) (Ty.dflt t56)).fst.snd.fst > (2000 : Int)) =
 false →
 (decide
 ((List.getD x.fst (Int.toNat a) (Ty.dflt t56)).snd.fst.snd.fst >
 (2000 : Int)) =
 true →
 false = small x.fst) ∧
 (decide
 ((List.getD x.fst (Int.toNat a) (Ty.dflt t56)).snd.fst.snd.fst >
 (2000 : Int)) =
 false →
 (IntKind.wrap IntKind.i64 (a + (1 : Int)) =
 IntKind.wrap IntKind.i64 (a + (1 : Int)) ∧
 x.fst = x.fst ∧
 (↑(List.length x.fst) : Int) = (↑(List.length x.fst) : Int)) ∧
 Z (IntKind.wrap IntKind.i64 (a + (1 : Int)), ()) ∧
 μ (IntKind.wrap IntKind.i64 (a + (1 : Int)), ()) < μ (a, ())))) ∧
 (decide (a < (↑(List.length x.fst) : Int)) = false → true = small x.fst)))
theorem vcEq22 : fnVC E22 Try.f22 (bodyOf Try.f22) cSmall = vc22 := by kernel_rfl
/- fn 23 -/
def hs23 : List (Nat × Nat × Hint) := [(0, 6, ⟨[.rowS 5 900000005 t57 57, .slot 6 t3, .slot 7 t3, .slot 9 t3], [0, 1, 8], [], []⟩)]
def nm23 : List Nat := []
noncomputable def E23 : Env := env tab [(35, cEnd), (24, cKept)] [] noGl hs23 nm23
def vc23 : Prop :=
 ∀
 (x :
 List Chg ×
 List Chg × Unit),
 List.length x.fst ≤ (60 : Nat) ∧
 List.length x.snd.fst ≤ (60 : Nat) ∧
 normal x.fst = true ∧ normal x.snd.fst = true ∧ endOf x.fst ≤ (2000 : Int) ∧ endOf x.snd.fst ≤ (2000 : Int) →
 List.length x.fst ≤ maxLen ∧
 List.length x.snd.fst ≤ maxLen ∧
 (((0 : Int) = (0 : Int) ∧
 (0 : Int) = (0 : Int) ∧
 (0 : Int) = (0 : Int) ∧
 True ∧
 x.fst = x.fst ∧
 x.snd.fst = x.snd.fst ∧
 IntKind.wrap IntKind.i64
 (IntKind.wrap IntKind.i64 (endOf x.fst + endOf x.snd.fst) + (1 : Int)) =
 IntKind.wrap IntKind.i64
 (IntKind.wrap IntKind.i64 (endOf x.fst + endOf x.snd.fst) + (1 : Int))) ∧
 True ∧ True) ∧
 ∃ (Z : List Chg × Int × Int × Int × Unit → Prop),
 ∃ (μ : List Chg × Int × Int × Int × Unit → Nat),
 Z ([], (0 : Int), (0 : Int), (0 : Int), ()) ∧
 ∀ (a : List Chg) (a_1 a_2 a_3 : Int),
 Z (a, a_1, a_2, a_3, ()) →
 (decide
 (a_3 ≤
 IntKind.wrap IntKind.i64
 (IntKind.wrap IntKind.i64 (endOf x.fst + endOf x.snd.fst) + (1 : Int))) =
 true →
 (List.length x.fst ≤ maxLen ∧
 normal x.fst = true ∧ (0 : Ty.den t3) ≤ a_3 ∧ a_3 ≤ (10995116277760 : Ty.den t3)) ∧
 (decide (kept x.fst a_3 ≥ (0 : Int)) = true →
 (List.length x.snd.fst ≤ maxLen ∧
 normal x.snd.fst = true ∧
 (0 : Ty.den t3) ≤ kept x.fst a_3 ∧ kept x.fst a_3 ≤ (10995116277760 : Ty.den t3)) ∧
 (decide (kept x.snd.fst (kept x.fst a_3) < (0 : Int)) = true →
 ((IntKind.wrap IntKind.i64 (a_3 + (1 : Int)) =
 IntKind.wrap IntKind.i64 (a_3 + (1 : Int)) ∧
 a_2 = a_2 ∧
 a_1 = a_1 ∧
 True ∧
 x.fst = x.fst ∧
 x.snd.fst = x.snd.fst ∧
 IntKind.wrap IntKind.i64
 (IntKind.wrap IntKind.i64 (endOf x.fst + endOf x.snd.fst) +
 (1 : Int)) =
 IntKind.wrap IntKind.i64
 (IntKind.wrap IntKind.i64 (endOf x.fst + endOf x.snd.fst) +
 (1 : Int))) ∧
 a = a ∧ True) ∧
 Z (a, a_1, a_2, IntKind.wrap IntKind.i64 (a_3 + (1 : Int)), ()) ∧
 μ (a, a_1, a_2, IntKind.wrap IntKind.i64 (a_3 + (1 : Int)), ()) <
 μ (a, a_1, a_2, a_3, ())) ∧
 (decide (kept x.snd.fst (kept x.fst a_3) < (0 : Int)) = false →
 (decide (a_3 > a_1) = true →
 (List.length a +
 List.length
 [((a_1, a_3, ()), (a_2, kept x.snd.fst (kept x.fst a_3), ()), ())]) *
 (32 : Nat) ≤
 (140737488355328 : Nat) ∧
 List.length a +
 List.length
 [((a_1, a_3, ()), (a_2, kept x.snd.fst (kept x.fst a_3), ()), ())] ≤
 maxLen ∧
 ((IntKind.wrap IntKind.i64 (a_3 + (1 : Int)) =
 IntKind.wrap IntKind.i64 (a_3 + (1 : Int)) ∧
 IntKind.wrap IntKind.i64
 (kept x.snd.fst (kept x.fst a_3) + (1 : Int)) =
 IntKind.wrap IntKind.i64
 (kept x.snd.fst (kept x.fst a_3) + (1 : Int)) ∧
 IntKind.wrap IntKind.i64 (a_3 + (1 : Int)) =
 IntKind.wrap IntKind.i64 (a_3 + (1 : Int)) ∧
 True ∧
 x.fst = x.fst ∧
 x.snd.fst = x.snd.fst ∧
 IntKind.wrap IntKind.i64
 (IntKind.wrap IntKind.i64
 (endOf x.fst + endOf x.snd.fst) +
 (1 : Int)) =
 IntKind.wrap IntKind.i64
 (IntKind.wrap IntKind.i64
 (endOf x.fst + endOf x.snd.fst) +
 (1 : Int))) ∧
 a ++
 [((a_1, a_3, ()), (a_2, kept x.snd.fst (kept x.fst a_3), ()),
 ())] =
 a ++
 [((a_1, a_3, ()), (a_2, kept x.snd.fst (kept x.fst a_3), ()),
 ())] ∧
 True) ∧
 Z
 (a ++
 [((a_1, a_3, ()), (a_2, kept x.snd.fst (kept x.fst a_3), ()),
 ())],
 IntKind.wrap IntKind.i64 (a_3 + (1 : Int)),
 IntKind.wrap IntKind.i64
 (kept x.snd.fst (kept x.fst a_3) + (1 : Int)),
 IntKind.wrap IntKind.i64 (a_3 + (1 : Int)), ()) ∧
 μ
 (a ++
 [((a_1, a_3, ()), (a_2, kept x.snd.fst (kept x.fst a_3), ()),
 ())],
 IntKind.wrap IntKind.i64 (a_3 + (1 : Int)),
 IntKind.wrap IntKind.i64
 (kept x.snd.fst (kept x.fst a_3) + (1 : Int)),
 IntKind.wrap IntKind.i64 (a_3 + (1 : Int)), ()) <
 μ (a, a_1, a_2, a_3, ())) ∧
 (decide (a_3 > a_1) = false →
 (decide (kept x.snd.fst (kept x.fst a_3) > a_2) = true →
 (List.length a +
 List.length
 [((a_1, a_3, ()), (a_2, kept x.snd.fst (kept x.fst a_3), ()),
 ())]) *
 (32 : Nat) ≤
 (140737488355328 : Nat) ∧
 List.length a +
 List.length
 [((a_1, a_3, ()), (a_2, kept x.snd.fst (kept x.fst a_3), ()),
 ())] ≤
 maxLen ∧
 ((IntKind.wrap IntKind.i64 (a_3 + (1 : Int)) =
 IntKind.wrap IntKind.i64 (a_3 + (1 : Int)) ∧
 IntKind.wrap IntKind.i64
 (kept x.snd.fst (kept x.fst a_3) + (1 : Int)) =
 IntKind.wrap IntKind.i64
 (kept x.snd.fst (kept x.fst a_3) + (1 : Int)) ∧
 IntKind.wrap IntKind.i64 (a_3 + (1 : Int)) =
 IntKind.wrap IntKind.i64 (a_3 + (1 : Int)) ∧
 True ∧
 x.fst = x.fst ∧
 x.snd.fst = x.snd.fst ∧
 IntKind.wrap IntKind.i64
 (IntKind.wrap IntKind.i64
 (endOf x.fst + endOf x.snd.fst) +
 (1 : Int)) =
 IntKind.wrap IntKind.i64
 (IntKind.wrap IntKind.i64
 (endOf x.fst + endOf x.snd.fst) +
 (1 : Int))) ∧
 a ++
 [((a_1, a_3, ()), (a_2, kept x.snd.fst (kept x.fst a_3), ()),
 ())] =
 a ++
 [((a_1, a_3, ()), (a_2, kept x.snd.fst (kept x.fst a_3), ()),
 ())] ∧
 True) ∧
 Z
 (a ++
 [((a_1, a_3, ()), (a_2, kept x.snd.fst (kept x.fst a_3), ()),
 ())],
 IntKind.wrap IntKind.i64 (a_3 + (1 : Int)),
 IntKind.wrap IntKind.i64
 (kept x.snd.fst (kept x.fst a_3) + (1 : Int)),
 IntKind.wrap IntKind.i64 (a_3 + (1 : Int)), ()) ∧
 μ
 (a ++
 [((a_1, a_3, ()),
 (a_2, kept x.snd.fst (kept x.fst a_3), ()), ())],
 IntKind.wrap IntKind.i64 (a_3 + (1 : Int)),
 IntKind.wrap IntKind.i64
 (kept x.snd.fst (kept x.fst a_3) + (1 : Int)),
 IntKind.wrap IntKind.i64 (a_3 + (1 : Int)), ()) <
 μ (a, a_1, a_2, a_3, ())) ∧
 (decide (kept x.snd.fst (kept x.fst a_3) > a_2) = false →
 ((IntKind.wrap IntKind.i64 (a_3 + (1 : Int)) =
 IntKind.wrap IntKind.i64 (a_3 + (1 : Int)) ∧
 IntKind.wrap IntKind.i64
 (kept x.snd.fst (kept x.fst a_3) + (1 : Int)) =
 IntKind.wrap IntKind.i64
 (kept x.snd.fst (kept x.fst a_3) + (1 : Int)) ∧
 IntKind.wrap IntKind.i64 (a_3 + (1 : Int)) =
 IntKind.wrap IntKind.i64 (a_3 + (1 : Int)) ∧
 True ∧
 x.fst = x.fst ∧
 x.snd.fst = x.snd.fst ∧
 IntKind.wrap IntKind.i64
 (IntKind.wrap IntKind.i64
 (endOf x.fst + endOf x.snd.fst) +
 (1 : Int)) =
 IntKind.wrap IntKind.i64
 (IntKind.wrap IntKind.i64
 (endOf x.fst + endOf x.snd.fst) +
 (1 : Int))) ∧
 a = a ∧ True) ∧
 Z
 (a, IntKind.wrap IntKind.i64 (a_3 + (1 : Int)),
 IntKind.wrap IntKind.i64
 (kept x.snd.fst (kept x.fst a_3) + (1 : Int)),
 IntKind.wrap IntKind.i64 (a_3 + (1 : Int)), ()) ∧
 μ
 (a, IntKind.wrap IntKind.i64 (a_3 + (1 : Int)),
 IntKind.wrap IntKind.i64
 (kept x.snd.fst (kept x.fst a_3) + (1 : Int)),
 IntKind.wrap IntKind.i64 (a_3 + (1 : Int)), ()) <
 μ (a, a_1, a_2, a_3, ()))))) ∧
 (decide (kept x.fst a_3 ≥ (0 : Int)) = false →
 (decide (kept x.fst a_3 < (0 : Int)) = true →
 ((IntKind.wrap IntKind.i64 (a_3 + (1 : Int)) =
 IntKind.wrap IntKind.i64 (a_3 + (1 : Int)) ∧
 a_2 = a_2 ∧
 a_1 = a_1 ∧
 True ∧
 x.fst = x.fst ∧
 x.snd.fst = x.snd.fst ∧
 IntKind.wrap IntKind.i64
 (IntKind.wrap IntKind.i64 (endOf x.fst + endOf x.snd.fst) +
 (1 : Int)) =
 IntKind.wrap IntKind.i64
 (IntKind.wrap IntKind.i64 (endOf x.fst + endOf x.snd.fst) +
 (1 : Int))) ∧
 a = a ∧ True) ∧
 Z (a, a_1, a_2, IntKind.wrap IntKind.i64 (a_3 + (1 : Int)), ()) ∧
 μ (a, a_1, a_2, IntKind.wrap IntKind.i64 (a_3 + (1 : Int)), ()) <
 μ (a, a_1, a_2, a_3, ())) ∧
 (decide (kept x.fst a_3 < (0 : Int)) = false →
 (decide (a_3 > a_1) = true →
 (List.length a + List.length [((a_1, a_3, ()), (a_2, kept x.fst a_3, ()), ())]) *
 (32 : Nat) ≤
 (140737488355328 : Nat) ∧
 List.length a + List.length [((a_1, a_3, ()), (a_2, kept x.fst a_3, ()), ())] ≤
 maxLen ∧
 ((IntKind.wrap IntKind.i64 (a_3 + (1 : Int)) =
 IntKind.wrap IntKind.i64 (a_3 + (1 : Int)) ∧
 IntKind.wrap IntKind.i64 (kept x.fst a_3 + (1 : Int)) =
 IntKind.wrap IntKind.i64 (kept x.fst a_3 + (1 : Int)) ∧
 IntKind.wrap IntKind.i64 (a_3 + (1 : Int)) =
 IntKind.wrap IntKind.i64 (a_3 + (1 : Int)) ∧
 True ∧
 x.fst = x.fst ∧
 x.snd.fst = x.snd.fst ∧
 IntKind.wrap IntKind.i64
 (IntKind.wrap IntKind.i64
 (endOf x.fst + endOf x.snd.fst) +
 (1 : Int)) =
 IntKind.wrap IntKind.i64
 (IntKind.wrap IntKind.i64
 (endOf x.fst + endOf x.snd.fst) +
 (1 : Int))) ∧
 a ++ [((a_1, a_3, ()), (a_2, kept x.fst a_3, ()), ())] =
 a ++ [((a_1, a_3, ()), (a_2, kept x.fst a_3, ()), ())] ∧
 True) ∧
 Z
 (a ++ [((a_1, a_3, ()), (a_2, kept x.fst a_3, ()), ())],
 IntKind.wrap IntKind.i64 (a_3 + (1 : Int)),
 IntKind.wrap IntKind.i64 (kept x.fst a_3 + (1 : Int)),
 IntKind.wrap IntKind.i64 (a_3 + (1 : Int)), ()) ∧
 μ
 (a ++ [((a_1, a_3, ()), (a_2, kept x.fst a_3, ()), ())],
 IntKind.wrap IntKind.i64 (a_3 + (1 : Int)),
 IntKind.wrap IntKind.i64 (kept x.fst a_3 + (1 : Int)),
 IntKind.wrap IntKind.i64 (a_3 + (1 : Int)), ()) <
 μ (a, a_1, a_2, a_3, ())) ∧
 (decide (a_3 > a_1) = false →
 (decide (kept x.fst a_3 > a_2) = true →
 (List.length a +
 List.length [((a_1, a_3, ()), (a_2, kept x.fst a_3, ()), ())]) *
 (32 : Nat) ≤
 (140737488355328 : Nat) ∧
 List.length a +
 List.length [((a_1, a_3, ()), (a_2, kept x.fst a_3, ()), ())] ≤
 maxLen ∧
 ((IntKind.wrap IntKind.i64 (a_3 + (1 : Int)) =
 IntKind.wrap IntKind.i64 (a_3 + (1 : Int)) ∧
 IntKind.wrap IntKind.i64 (kept x.fst a_3 + (1 : Int)) =
 IntKind.wrap IntKind.i64 (kept x.fst a_3 + (1 : Int)) ∧
 IntKind.wrap IntKind.i64 (a_3 + (1 : Int)) =
 IntKind.wrap IntKind.i64 (a_3 + (1 : Int)) ∧
 True ∧
 x.fst = x.fst ∧
 x.snd.fst = x.snd.fst ∧
 IntKind.wrap IntKind.i64
 (IntKind.wrap IntKind.i64
 (endOf x.fst + endOf x.snd.fst) +
 (1 : Int)) =
 IntKind.wrap IntKind.i64
 (IntKind.wrap IntKind.i64
 (endOf x.fst + endOf x.snd.fst) +
 (1 : Int))) ∧
 a ++ [((a_1, a_3, ()), (a_2, kept x.fst a_3, ()), ())] =
 a ++ [((a_1, a_3, ()), (a_2, kept x.fst a_3, ()), ())] ∧
 True) ∧
 Z
 (a ++ [((a_1, a_3, ()), (a_2, kept x.fst a_3, ()), ())],
 IntKind.wrap IntKind.i64 (a_3 + (1 : Int)),
 IntKind.wrap IntKind.i64 (kept x.fst a_3 + (1 : Int)),
 IntKind.wrap IntKind.i64 (a_3 + (1 : Int)), ()) ∧
 μ
 (a ++ [((a_1, a_3, ()), (a_2, kept x.fst a_3, ()), ())],
 IntKind.wrap IntKind.i64 (a_3 + (1 : Int)),
 IntKind.wrap IntKind.i64 (kept x.fst a_3 + (1 : Int)),
 IntKind.wrap IntKind.i64 (a_3 + (1 : Int)), ()) <
 μ (a, a_1, a_2, a_3, ())) ∧
 (decide (kept x.fst a_3 > a_2) = false →
 ((IntKind.wrap IntKind.i64 (a_3 + (1 : Int)) =
 IntKind.wrap IntKind.i64 (a_3 + (1 : Int)) ∧
 IntKind.wrap IntKind.i64 (kept x.fst a_3 + (1 : Int)) =
 IntKind.wrap IntKind.i64 (kept x.fst a_3 + (1 : Int)) ∧
 IntKind.wrap IntKind.i64 (a_3 + (1 : Int)) =
 IntKind.wrap IntKind.i64 (a_3 + (1 : Int)) ∧
 True ∧
 x.fst = x.fst ∧
 x.snd.fst = x.snd.fst ∧
 IntKind.wrap IntKind.i64
 (IntKind.wrap IntKind.i64
 (endOf x.fst + endOf x.snd.fst) +
 (1 : Int)) =
 IntKind.wrap IntKind.i64
 (IntKind.wrap IntKind.i64
 (endOf x.fst + endOf x.snd.fst) +
 (1 : Int))) ∧
 a = a ∧ True) ∧
 Z
 (a, IntKind.wrap IntKind.i64 (a_3 + (1 : Int)),
 IntKind.wrap IntKind.i64 (kept x.fst a_3 + (1 : Int)),
 IntKind.wrap IntKind.i64 (a_3 + (1 : Int)), ()) ∧
 μ
 (a, IntKind.wrap IntKind.i64 (a_3 + (1 : Int)),
 IntKind.wrap IntKind.i64 (kept x.fst a_3 + (1 : Int)),
 IntKind.wrap IntKind.i64 (a_3 + (1 : Int)), ()) <
 μ (a, a_1, a_2, a_3, ())))))) ∧
 (decide
 (a_3 ≤
 IntKind.wrap IntKind.i64
 (IntKind.wrap IntKind.i64 (endOf x.fst + endOf x.snd.fst) + (1 : Int))) =
 false →
 a = refCompose x.fst x.snd.fst)
theorem vcEq23 : fnVC E23 Try.f23 (bodyOf Try.f23) cRefCompose = vc23 := by kernel_rfl
/- fn 24 -/
def hs24 : List (Nat × Nat × Hint) := [(0, 3, ⟨[.slot 5 t3, .slot 10 t3], [1, 8, 9], [], []⟩)]
def nm24 : List Nat := []
noncomputable def E24 : Env := env tab [] [] noGl hs24 nm24
def vc24 : Prop :=
 ∀ (x : List Chg × Int × Unit),
 List.length x.fst ≤ maxLen ∧
 normal x.fst = true ∧ (0 : Ty.den t3) ≤ x.snd.fst ∧ x.snd.fst ≤ (10995116277760 : Ty.den t3) →
 ((0 : Int) = (0 : Int) ∧
 (0 : Int) = (0 : Int) ∧
 x.snd.fst = x.snd.fst ∧ x.fst = x.fst ∧ (↑(List.length x.fst) : Int) = (↑(List.length x.fst) : Int)) ∧
 ∃ (Z : Int × Int × Unit → Prop),
 ∃ (μ : Int × Int × Unit → Nat),
 Z ((0 : Int), (0 : Int), ()) ∧
 ∀ (a a_1 : Int),
 Z (a, a_1, ()) →
 (decide (a_1 < (↑(List.length x.fst) : Int)) = true →
 ((0 : Int) ≤ a_1 ∧ a_1 < (↑(List.length x.fst) : Int)) ∧
 (decide (x.snd.fst < (List.getD x.fst (Int.toNat a_1) (Ty.dflt t57)).fst.fst) = true →
 IntKind.wrap IntKind.i64 (x.snd.fst + a) = kept x.fst x.snd.fst) ∧
 (decide (x.snd.fst < (List.getD x.fst (Int.toNat a_1) (Ty.dflt t57)).fst.fst) = false →
 (decide (x.snd.fst < (List.getD x.fst (Int.toNat a_1) (Ty.dflt t57)).fst.snd.fst) = true →
 (-1 : Int) = kept x.fst x.snd.fst) ∧
 (decide (x.snd.fst < (List.getD x.fst (Int.toNat a_1) (Ty.dflt t57)).fst.snd.fst) = false →
 (IntKind.wrap IntKind.i64 (a_1 + (1 : Int)) = IntKind.wrap IntKind.i64 (a_1 + (1 : Int)) ∧
 IntKind.wrap IntKind.i64
 ((List.getD x.fst (Int.toNat a_1) (Ty.dflt t57)).snd.fst.snd.fst -
 (List.getD x.fst (Int.toNat a_1) (Ty.dflt t57)).fst.snd.fst) =
 IntKind.wrap IntKind.i64
 ((List.getD x.fst (Int.toNat a_1) (Ty.dflt t57)).snd.fst.snd.fst -
 (List.getD x.fst (Int.toNat a_1) (Ty.dflt t57)).fst.snd.fst) ∧
 x.snd.fst = x.snd.fst ∧
 x.fst = x.fst ∧ (↑(List.length x.fst) : Int) = (↑(List.length x.fst) : Int)) ∧
 Z
 (IntKind.wrap IntKind.i64
 ((List.getD x.fst (Int.toNat a_1) (Ty.dflt t57)).snd.fst.snd.fst -
 (List.getD x.fst (Int.toNat a_1) (Ty.dflt t57)).fst.snd.fst),
 IntKind.wrap IntKind.i64 (a_1 + (1 : Int)), ()) ∧
 μ
 (IntKind.wrap IntKind.i64
 ((List.getD x.fst (Int.toNat a_1) (Ty.dflt t57)).snd.fst.snd.fst -
 (List.getD x.fst (Int.toNat a_1) (Ty.dflt t57)).fst.snd.fst),
 IntKind.wrap IntKind.i64 (a_1 + (1 : Int)), ()) <
 μ (a, a_1, ())))) ∧
 (decide (a_1 < (↑(List.length x.fst) : Int)) = false →
 IntKind.wrap IntKind.i64 (x.snd.fst + a) = kept x.fst x.snd.fst)
theorem vcEq24 : fnVC E24 Try.f24 (bodyOf Try.f24) cKept = vc24 := by kernel_rfl
/- fn 25 -/
def hs25 : List (Nat × Nat × Hint) := [(370005, 3, ⟨[.rowS 370010 900370010 t56 56, .slot 370015 t3], [370006, 370013, 370014, 2], [], []⟩)]
def nm25 : List Nat := []
noncomputable def E25 : Env := env tab [] [(36, Try.f36), (37, Try.f37)] noGl hs25 nm25
def vc25 : Prop :=
 ∀ (x : List Chg × Unit),
 List.length x.fst ≤ (1000000000 : Nat) →
 (((0 : Int) = (0 : Int) ∧
 True ∧
 Value.func (Fn.func (37 : Nat)) #[] #[] = Value.func (Fn.func (37 : Nat)) #[] #[] ∧
 x.fst = x.fst ∧
 (↑(List.length x.fst) : Int) = (↑(List.length x.fst) : Int) ∧
 Value.slice none (0 : Nat) (0 : Nat) = Value.slice none (0 : Nat) (0 : Nat)) ∧
 True ∧ True) ∧
 ∃ (Z : List Chg × Int × Unit → Prop),
 ∃ (μ : List Chg × Int × Unit → Nat),
 Z ([], (0 : Int), ()) ∧
 ∀ (a : List Chg) (a_1 : Int),
 Z (a, a_1, ()) →
 (decide (a_1 < (↑(List.length x.fst) : Int)) = true →
 ((0 : Int) ≤ a_1 ∧ a_1 < (↑(List.length x.fst) : Int)) ∧
 (List.length a +
 List.length
 [((List.getD x.fst (Int.toNat a_1) (Ty.dflt t56)).snd.fst,
 (List.getD x.fst (Int.toNat a_1) (Ty.dflt t56)).fst, ())]) *
 (32 : Nat) ≤
 (140737488355328 : Nat) ∧
 List.length a +
 List.length
 [((List.getD x.fst (Int.toNat a_1) (Ty.dflt t56)).snd.fst,
 (List.getD x.fst (Int.toNat a_1) (Ty.dflt t56)).fst, ())] ≤
 maxLen ∧
 ((IntKind.wrap IntKind.i64 (a_1 + (1 : Int)) = IntKind.wrap IntKind.i64 (a_1 + (1 : Int)) ∧
 True ∧
 Value.func (Fn.func (37 : Nat)) #[] #[] = Value.func (Fn.func (37 : Nat)) #[] #[] ∧
 x.fst = x.fst ∧
 (↑(List.length x.fst) : Int) = (↑(List.length x.fst) : Int) ∧
 Value.slice none (0 : Nat) (0 : Nat) = Value.slice none (0 : Nat) (0 : Nat)) ∧
 a ++
 [((List.getD x.fst (Int.toNat a_1) (Ty.dflt t56)).snd.fst,
 (List.getD x.fst (Int.toNat a_1) (Ty.dflt t56)).fst, ())] =
 a ++
 [((List.getD x.fst (Int.toNat a_1) (Ty.dflt t56)).snd.fst,
 (List.getD x.fst (Int.toNat a_1) (Ty.dflt t56)).fst, ())] ∧
 True) ∧
 Z
 (a ++
 [((List.getD x.fst (Int.toNat a_1) (Ty.dflt t56)).snd.fst,
 (List.getD x.fst (Int.toNat a_1) (Ty.dflt t56)).fst, ())],
 IntKind.wrap IntKind.i64 (a_1 + (1 : Int)), ()) ∧
 μ
 (a ++
 [((List.getD x.fst (Int.toNat a_1) (Ty.dflt t56)).snd.fst,
 (List.getD x.fst (Int.toNat a_1) (Ty.dflt t56)).fst, ())],
 IntKind.wrap IntKind.i64 (a_1 + (1 : Int)), ()) <
 μ (a, a_1, ())) ∧
 (decide (a_1 < (↑(List.length x.fst) : Int)) = false → a = invert x.fst)
theorem vcEq25 : fnVC E25 Try.f25 (bodyOf Try.f25) cInvert = vc25 := by kernel_rfl
/- fn 26 -/
def hs26 : List (Nat × Nat × Hint) := []
def nm26 : List Nat := []
noncomputable def E26 : Env := env tab [] [] noGl hs26 nm26
def vc26 : Prop :=
 ∀ (x : Span × Unit),
 True →
 (decide (x.fst.fst ≥ (0 : Int)) = true →
 (decide (x.fst.fst ≤ x.fst.snd.fst) = true → decide (x.fst.snd.fst ≤ (1099511627776 : Int)) = within x.fst) ∧
 (decide (x.fst.fst ≤ x.fst.snd.fst) = false → false = within x.fst)) ∧
 (decide (x.fst.fst ≥ (0 : Int)) = false → false = within x.fst)
theorem vcEq26 : fnVC E26 Try.f26 (bodyOf Try.f26) cWithin = vc26 := by kernel_rfl
/- fn 27 -/
def hs27 : List (Nat × Nat × Hint) := []
def nm27 : List Nat := []
noncomputable def E27 : Env := env tab [] [] noGl hs27 nm27
def vc27 : Prop :=
 ∀ (x : Span × Unit),
 True →
 (decide (x.fst.fst ≥ (0 : Int)) = true →
 (decide (x.fst.snd.fst ≥ x.fst.fst) = true → decide (x.fst.snd.fst ≤ (1099511627776 : Int)) = within x.fst) ∧
 (decide (x.fst.snd.fst ≥ x.fst.fst) = false → false = within x.fst)) ∧
 (decide (x.fst.fst ≥ (0 : Int)) = false → false = within x.fst)
theorem vcEq27 : fnVC E27 Try.f27 (bodyOf Try.f27) cWithin = vc27 := by kernel_rfl
/- fn 28 -/
def hs28 : List (Nat × Nat × Hint) := []
def nm28 : List Nat := []
noncomputable def E28 : Env := env tab [] [] noGl hs28 nm28
def vc28 : Prop :=
 ∀ (x : Span × Unit), True → IntKind.wrap IntKind.i64 (x.fst.snd.fst - x.fst.fst) = size x.fst
theorem vcEq28 : fnVC E28 Try.f28 (bodyOf Try.f28) cSize = vc28 := by kernel_rfl
/- fn 35 -/
def hs35 : List (Nat × Nat × Hint) := []
def nm35 : List Nat := []
noncomputable def E35 : Env := env tab [] [] noGl hs35 nm35
def vc35 : Prop :=
 ∀ (x : List Chg × Unit),
 List.length x.fst ≤ maxLen →
 (((↑(List.length x.fst) : Int) == (0 : Int)) = true → (0 : Int) = endOf x.fst) ∧
 (((↑(List.length x.fst) : Int) == (0 : Int)) = false →
 ((0 : Int) ≤ IntKind.wrap IntKind.i64 ((↑(List.length x.fst) : Int) - (1 : Int)) ∧
 IntKind.wrap IntKind.i64 ((↑(List.length x.fst) : Int) - (1 : Int)) < (↑(List.length x.fst) : Int)) ∧
 (List.getD x.fst (Int.toNat (IntKind.wrap IntKind.i64 ((↑(List.length x.fst) : Int) - (1 : Int))))
 (Ty.dflt t57)).fst.snd.fst =
 endOf x.fst)
theorem vcEq35 : fnVC E35 Try.f35 (bodyOf Try.f35) cEnd = vc35 := by kernel_rfl
end Go.Fr.C10
