/-
  Conditions to be proved, function by function, printed by a program. Conditions: none.
-/
import Derived.Test.YtbcdgcpaojfknaaC25A
namespace Go.Fr.C25
open Go Go.Fr Go.Proofs
set_option maxRecDepth 100000

/- fn 3 -/
def hs3 : List (Nat × Nat × Hint) := []
def nm3 : List Nat := []
noncomputable def E3 : Env := env tab [(9, cMiddle), (10, cSame), (11, cSame)] [] noGl hs3 nm3
def vc3 : Prop :=
 ∀
 (x :
 Row ×
 Row × Unit),
 List.length x.fst.fst ≤ maxLen ∧ List.length x.snd.fst.fst ≤ maxLen →
 (decide ((↑(List.length x.fst.fst) : Int) > (200 : Int)) = true → True ∧ true = true) ∧
 (decide ((↑(List.length x.fst.fst) : Int) > (200 : Int)) = false →
 (decide ((↑(List.length x.snd.fst.fst) : Int) > (200 : Int)) = true → True ∧ true = true) ∧
 (decide ((↑(List.length x.snd.fst.fst) : Int) > (200 : Int)) = false →
 (List.length x.fst.fst ≤ maxLen ∧ List.length x.snd.fst.fst ≤ maxLen) ∧
 (List.length x.fst.fst ≤ maxLen ∧ List.length x.snd.fst.fst ≤ maxLen) ∧
 (Ty.beq t4 (same x.fst x.snd.fst) (same x.fst x.snd.fst) = true →
 (List.length x.fst.fst ≤ maxLen ∧ List.length x.fst.fst ≤ maxLen) ∧
 (same x.fst x.fst = true →
 (List.length x.snd.fst.fst ≤ maxLen ∧ List.length x.fst.fst ≤ maxLen) ∧
 (List.length x.fst.fst ≤ maxLen ∧ List.length x.snd.fst.fst ≤ maxLen) ∧
 (Ty.beq t4 (same x.snd.fst x.fst) (same x.fst x.snd.fst) = true → True ∧ true = true) ∧
 (Ty.beq t4 (same x.snd.fst x.fst) (same x.fst x.snd.fst) = false → false = true)) ∧
 (same x.fst x.fst = false → false = true)) ∧
 (Ty.beq t4 (same x.fst x.snd.fst) (same x.fst x.snd.fst) = false → false = true)))
theorem vcEq3 : fnVC E3 Try.f3 (bodyOf Try.f3) cDiffSame = vc3 := by kernel_rfl
/- fn 4 -/
def hs4 : List (Nat × Nat × Hint) := []
def nm4 : List Nat := []
noncomputable def E4 : Env := env tab [(9, cMiddle), (12, cFits), (13, cFits)] [] noGl hs4 nm4
def vc4 : Prop :=
 ∀ (x : (Int × Int × Int × Int × Unit) × Int × Int × Unit),
 x.snd.fst ≤ (9223372036854775807 : Int) ∧ x.snd.snd.fst ≤ (9223372036854775807 : Int) →
 (decide (x.snd.fst < (0 : Int)) = true → True ∧ true = true) ∧
 (decide (x.snd.fst < (0 : Int)) = false →
 (decide (x.snd.snd.fst < (0 : Int)) = true → True ∧ true = true) ∧
 (decide (x.snd.snd.fst < (0 : Int)) = false →
 (x.snd.fst ≤ (9223372036854775807 : Int) ∧ x.snd.snd.fst ≤ (9223372036854775807 : Int)) ∧
 (x.snd.fst ≤ (9223372036854775807 : Int) ∧ x.snd.snd.fst ≤ (9223372036854775807 : Int)) ∧
 (Ty.beq t4 (fits x.fst x.snd.fst x.snd.snd.fst) (fits x.fst x.snd.fst x.snd.snd.fst) = true →
 True ∧ true = true) ∧
 (Ty.beq t4 (fits x.fst x.snd.fst x.snd.snd.fst) (fits x.fst x.snd.fst x.snd.snd.fst) = false →
 false = true)))
theorem vcEq4 : fnVC E4 Try.f4 (bodyOf Try.f4) cDiffFits = vc4 := by kernel_rfl
/- fn 5 -/
def hs5 : List (Nat × Nat × Hint) := []
def nm5 : List Nat := []
noncomputable def E5 : Env := env tab [(14, cLong), (9, cMiddle), (15, cSound), (16, cSound)] [] noGl hs5 nm5
def vc5 : Prop :=
 ∀
 (x :
 List Row ×
 List Row ×
 (Int × Int × Int × Int × Unit) × Unit),
 rows x.fst ∧ rows x.snd.fst →
 List.length x.fst ≤ maxLen ∧
 (long x.fst = true → True ∧ true = true) ∧
 (long x.fst = false →
 List.length x.snd.fst ≤ maxLen ∧
 (long x.snd.fst = true → True ∧ true = true) ∧
 (long x.snd.fst = false →
 (rows x.fst ∧ rows x.snd.fst) ∧
 (rows x.fst ∧ rows x.snd.fst) ∧
 (Ty.beq t4 (sound x.fst x.snd.fst x.snd.snd.fst) (sound x.fst x.snd.fst x.snd.snd.fst) = true →
 True ∧ true = true) ∧
 (Ty.beq t4 (sound x.fst x.snd.fst x.snd.snd.fst) (sound x.fst x.snd.fst x.snd.snd.fst) = false →
 false = true)))
theorem vcEq5 : fnVC E5 Try.f5 (bodyOf Try.f5) cDiffSound = vc5 := by kernel_rfl
/- fn 6 -/
def hs6 : List (Nat × Nat × Hint) := []
def nm6 : List Nat := []
noncomputable def E6 : Env := env tab [(14, cLong), (9, cMiddle), (17, cLeast), (18, cLeast), (15, cSound)] [] noGl hs6 nm6
def vc6 : Prop :=
 ∀
 (x :
 List Row ×
 List Row × Unit),
 rows x.fst ∧ rows x.snd.fst →
 List.length x.fst ≤ maxLen ∧
 (long x.fst = true → True ∧ true = true) ∧
 (long x.fst = false →
 List.length x.snd.fst ≤ maxLen ∧
 (long x.snd.fst = true → True ∧ true = true) ∧
 (long x.snd.fst = false →
 (rows x.fst ∧ rows x.snd.fst) ∧
 (rows x.fst ∧ rows x.fst) ∧
 (rows x.fst ∧ rows x.snd.fst) ∧
 (Ty.beq t28 (least x.fst x.snd.fst) (least x.fst x.snd.fst) = true →
 (rows x.fst ∧ rows x.snd.fst) ∧
 (sound x.fst x.snd.fst (least x.fst x.snd.fst) = true →
 (((least x.fst x.fst).fst == (↑(List.length x.fst) : Int)) = true →
 (((least x.fst x.fst).snd.fst == (↑(List.length x.fst) : Int)) = true →
 True ∧ true = true) ∧
 (((least x.fst x.fst).snd.fst == (↑(List.length x.fst) : Int)) = false →
 false = true)) ∧
 (((least x.fst x.fst).fst == (↑(List.length x.fst) : Int)) = false → false = true)) ∧
 (sound x.fst x.snd.fst (least x.fst x.snd.fst) = false → false = true)) ∧
 (Ty.beq t28 (least x.fst x.snd.fst) (least x.fst x.snd.fst) = false → false = true)))
theorem vcEq6 : fnVC E6 Try.f6 (bodyOf Try.f6) cDiffLeast = vc6 := by kernel_rfl
/- fn 9 -/
def hs9 : List (Nat × Nat × Hint) := []
def nm9 : List Nat := []
noncomputable def E9 : Env := env tab [(21, cRow), (17, cLeast), (10, cSame), (12, cFits)] [] noGl hs9 nm9
def vc9 : Prop :=
 ∀ (x : Unit),
 True →
 True ∧
 True ∧
 True ∧
 True ∧
 True ∧
 True ∧
 True ∧
 (rows [oneRow (97 : Int), oneRow (98 : Int), oneRow (99 : Int)] ∧
 rows [oneRow (97 : Int), oneRow (120 : Int), oneRow (121 : Int), oneRow (99 : Int)]) ∧
 (Ty.beq t28
 (least [oneRow (97 : Int), oneRow (98 : Int), oneRow (99 : Int)]
 [oneRow (97 : Int), oneRow (120 : Int), oneRow (121 : Int), oneRow (99 : Int)])
 ((1 : Int), (2 : Int), (1 : Int), (3 : Int), ()) =
 true →
 True ∧
 True ∧
 (List.length (oneRow (97 : Int)).fst ≤ maxLen ∧
 List.length (oneRow (97 : Int)).fst ≤ maxLen) ∧
 (same (oneRow (97 : Int)) (oneRow (97 : Int)) = true →
 ((3 : Int) ≤ (9223372036854775807 : Int) ∧ (4 : Int) ≤ (9223372036854775807 : Int)) ∧
 fits
 (least [oneRow (97 : Int), oneRow (98 : Int), oneRow (99 : Int)]
 [oneRow (97 : Int), oneRow (120 : Int), oneRow (121 : Int),
 oneRow (99 : Int)])
 (3 : Int) (4 : Int) =
 true) ∧
 (same (oneRow (97 : Int)) (oneRow (97 : Int)) = false → false = true)) ∧
 (Ty.beq t28
 (least [oneRow (97 : Int), oneRow (98 : Int), oneRow (99 : Int)]
 [oneRow (97 : Int), oneRow (120 : Int), oneRow (121 : Int), oneRow (99 : Int)])
 ((1 : Int), (2 : Int), (1 : Int), (3 : Int), ()) =
 false →
 false = true)
theorem vcEq9 : fnVC E9 Try.f9 (bodyOf Try.f9) cMiddle = vc9 := by kernel_rfl
/- fn 10 -/
def hs10 : List (Nat × Nat × Hint) := [(230031, 4, ⟨[.slot 230048 t3], [230032, 230033, 230046, 230047, 4, 24, 30], [2, 3], []⟩)]
def nm10 : List Nat := []
noncomputable def E10 : Env := env tab [(23, cAlike)] [(22, Try.f22)] noGl hs10 nm10
def vc10 : Prop :=
 ∀
 (x :
 Row ×
 Row × Unit),
 List.length x.fst.fst ≤ maxLen ∧ List.length x.snd.fst.fst ≤ maxLen →
 (Ty.beq t4 x.fst.snd.snd.snd.snd.fst x.snd.fst.snd.snd.snd.snd.fst = true →
 (Ty.beq t4 x.fst.snd.snd.snd.snd.snd.fst x.snd.fst.snd.snd.snd.snd.snd.fst = true →
 ((x.fst.snd.snd.snd.snd.snd.snd.fst == x.snd.fst.snd.snd.snd.snd.snd.snd.fst) = true →
 (((↑(List.length x.fst.fst) : Int) != (↑(List.length x.snd.fst.fst) : Int)) = true →
 false = same x.fst x.snd.fst) ∧
 (((↑(List.length x.fst.fst) : Int) != (↑(List.length x.snd.fst.fst) : Int)) = false →
 (((0 : Int) = (0 : Int) ∧
 x.snd.fst.fst = x.snd.fst.fst ∧
 Value.func (Fn.func (23 : Nat)) #[] #[] = Value.func (Fn.func (23 : Nat)) #[] #[] ∧
 x.fst.fst = x.fst.fst ∧
 (↑(List.length x.fst.fst) : Int) = (↑(List.length x.fst.fst) : Int) ∧
 false = false ∧ true = true ∧ True) ∧
 (x.fst.fst = x.fst.fst ∧
 x.fst.snd.fst = x.fst.snd.fst ∧
 x.fst.snd.snd.fst = x.fst.snd.snd.fst ∧
 x.fst.snd.snd.snd.fst = x.fst.snd.snd.snd.fst ∧
 x.fst.snd.snd.snd.snd.fst = x.fst.snd.snd.snd.snd.fst ∧
 x.fst.snd.snd.snd.snd.snd.fst = x.fst.snd.snd.snd.snd.snd.fst ∧
 x.fst.snd.snd.snd.snd.snd.snd.fst = x.fst.snd.snd.snd.snd.snd.snd.fst) ∧
 x.snd.fst.fst = x.snd.fst.fst ∧
 x.snd.fst.snd.fst = x.snd.fst.snd.fst ∧
 x.snd.fst.snd.snd.fst = x.snd.fst.snd.snd.fst ∧
 x.snd.fst.snd.snd.snd.fst = x.snd.fst.snd.snd.snd.fst ∧
 x.snd.fst.snd.snd.snd.snd.fst = x.snd.fst.snd.snd.snd.snd.fst ∧
 x.snd.fst.snd.snd.snd.snd.snd.fst = x.snd.fst.snd.snd.snd.snd.snd.fst ∧
 x.snd.fst.snd.snd.snd.snd.snd.snd.fst = x.snd.fst.snd.snd.snd.snd.snd.snd.fst) ∧
 ∃ (Z : Int × Unit → Prop),
 ∃ (μ : Int × Unit → Nat),
 Z ((0 : Int), ()) ∧
 ∀ (a : Int),
 Z (a, ()) →
 (decide (a < (↑(List.length x.fst.fst) : Int)) = true →
 ((0 : Int) ≤ a ∧ a < (↑(List.length x.fst.fst) : Int)) ∧
 ((0 : Int) ≤ a ∧ a < (↑(List.length x.snd.fst.fst) : Int)) ∧
 True ∧
 ((!alike (List.getD x.fst.fst (Int.toNat a) (Ty.dflt t41))
 (List.getD x.snd.fst.fst (Int.toNat a) (Ty.dflt t41))) =
 true →
 false = same x.fst x.snd.fst) ∧
 ((!alike (List.getD x.fst.fst (Int.toNat a) (Ty.dflt t41))
 (List.getD x.snd.fst.fst (Int.toNat a) (Ty.dflt t41))) =
 false →
 ((IntKind.wrap IntKind.i64 (a + (1 : Int)) =
 IntKind.wrap IntKind.i64 (a + (1 : Int)) ∧
 x.snd.fst.fst = x.snd.fst.fst ∧
 Value.func (Fn.func (23 : Nat)) #[] #[] =
 Value.func (Fn.func (23 : Nat)) #[] #[] ∧
 x.fst.fst = x.fst.fst ∧
 (↑(List.length x.fst.fst) : Int) =
 (↑(List.length x.fst.fst) : Int) ∧
 false = false ∧ true = true ∧ True) ∧
 (x.fst.fst = x.fst.fst ∧
 x.fst.snd.fst = x.fst.snd.fst ∧
 x.fst.snd.snd.fst = x.fst.snd.snd.fst ∧
 x.fst.snd.snd.snd.fst = x.fst.snd.snd.snd.fst ∧
 x.fst.snd.snd.snd.snd.fst = x.fst.snd.snd.snd.snd.fst ∧
 x.fst.snd.snd.snd.snd.snd.fst =
 x.fst.snd.snd.snd.snd.snd.fst ∧
 x.fst.snd.snd.snd.snd.snd.snd.fst =
 x.fst.snd.snd.snd.snd.snd.snd.fst) ∧
 x.snd.fst.fst = x.snd.fst.fst ∧
 x.snd.fst.snd.fst = x.snd.fst.snd.fst ∧
 x.snd.fst.snd.snd.fst = x.snd.fst.snd.snd.fst ∧
 x.snd.fst.snd.snd.snd.fst = x.snd.fst.snd.snd.snd.fst ∧
 x.snd.fst.snd.snd.snd.snd.fst =
 x.snd.fst.snd.snd.snd.snd.fst ∧
 x.snd.fst.snd.snd.snd.snd.snd.fst =
 x.snd.fst.snd.snd.snd.snd.snd.fst ∧
 x.snd.fst.snd.snd.snd.snd.snd.snd.fst =
 x.snd.fst.snd.snd.snd.snd.snd.snd.fst) ∧
 Z (IntKind.wrap IntKind.i64 (a + (1 : Int)), ()) ∧
 μ (IntKind.wrap IntKind.i64 (a + (1 : Int)), ()) < μ (a, ()))) ∧
 (decide (a < (↑(List.length x.fst.fst) : Int)) = false →
 true = same x.fst x.snd.fst))) ∧
 ((x.fst.snd.snd.snd.snd.snd.snd.fst == x.snd.fst.snd.snd.snd.snd.snd.snd.fst) = false →
 false = same x.fst x.snd.fst)) ∧
 (Ty.beq t4 x.fst.snd.snd.snd.snd.snd.fst x.snd.fst.snd.snd.snd.snd.snd.fst = false →
 false = same x.fst x.snd.fst)) ∧
 (Ty.beq t4 x.fst.snd.snd.snd.snd.fst x.snd.fst.snd.snd.snd.snd.fst = false → false = same x.fst x.snd.fst)
theorem vcEq10 : fnVC E10 Try.f10 (bodyOf Try.f10) cSame = vc10 := by kernel_rfl
/- fn 11 -/
def hs11 : List (Nat × Nat × Hint) := [(0, 4, ⟨[.slot 39 t3], [3, 37, 38], [3], []⟩)]
def nm11 : List Nat := []
noncomputable def E11 : Env := env tab [] [] noGl hs11 nm11
def vc11 : Prop :=
 ∀
 (x :
 Row ×
 Row × Unit),
 List.length x.fst.fst ≤ maxLen ∧ List.length x.snd.fst.fst ≤ maxLen →
 (((↑(List.length x.fst.fst) : Int) != (↑(List.length x.snd.fst.fst) : Int)) = true → false = same x.fst x.snd.fst) ∧
 (((↑(List.length x.fst.fst) : Int) != (↑(List.length x.snd.fst.fst) : Int)) = false →
 ((!Ty.beq t4 x.fst.snd.snd.snd.snd.fst x.snd.fst.snd.snd.snd.snd.fst) = true → false = same x.fst x.snd.fst) ∧
 ((!Ty.beq t4 x.fst.snd.snd.snd.snd.fst x.snd.fst.snd.snd.snd.snd.fst) = false →
 ((!Ty.beq t4 x.fst.snd.snd.snd.snd.snd.fst x.snd.fst.snd.snd.snd.snd.snd.fst) = true →
 false = same x.fst x.snd.fst) ∧
 ((!Ty.beq t4 x.fst.snd.snd.snd.snd.snd.fst x.snd.fst.snd.snd.snd.snd.snd.fst) = false →
 ((x.fst.snd.snd.snd.snd.snd.snd.fst != x.snd.fst.snd.snd.snd.snd.snd.snd.fst) = true →
 false = same x.fst x.snd.fst) ∧
 ((x.fst.snd.snd.snd.snd.snd.snd.fst != x.snd.fst.snd.snd.snd.snd.snd.snd.fst) = false →
 (((0 : Int) = (0 : Int) ∧
 True ∧
 x.fst.fst = x.fst.fst ∧
 (↑(List.length x.fst.fst) : Int) = (↑(List.length x.fst.fst) : Int)) ∧
 x.snd.fst.fst = x.snd.fst.fst ∧
 x.snd.fst.snd.fst = x.snd.fst.snd.fst ∧
 x.snd.fst.snd.snd.fst = x.snd.fst.snd.snd.fst ∧
 x.snd.fst.snd.snd.snd.fst = x.snd.fst.snd.snd.snd.fst ∧
 x.snd.fst.snd.snd.snd.snd.fst = x.snd.fst.snd.snd.snd.snd.fst ∧
 x.snd.fst.snd.snd.snd.snd.snd.fst = x.snd.fst.snd.snd.snd.snd.snd.fst ∧
 x.snd.fst.snd.snd.snd.snd.snd.snd.fst = x.snd.fst.snd.snd.snd.snd.snd.snd.fst) ∧
 ∃ (Z : Int × Unit → Prop),
 ∃ (μ : Int × Unit → Nat),
 Z ((0 : Int), ()) ∧
 ∀ (a : Int),
 Z (a, ()) →
 (decide (a < (↑(List.length x.fst.fst) : Int)) = true →
 ((0 : Int) ≤ a ∧ a < (↑(List.length x.fst.fst) : Int)) ∧
 ((0 : Int) ≤ a ∧ a < (↑(List.length x.snd.fst.fst) : Int)) ∧
 (((List.getD x.fst.fst (Int.toNat a) (Ty.dflt t41)).fst !=
 (List.getD x.snd.fst.fst (Int.toNat a) (Ty.dflt t41)).fst) =
 true →
 false = same x.fst x.snd.fst) ∧
 (((List.getD x.fst.fst (Int.toNat a) (Ty.dflt t41)).fst !=
 (List.getD x.snd.fst.fst (Int.toNat a) (Ty.dflt t41)).fst) =
 false →
 (((List.getD x.fst.fst (Int.toNat a) (Ty.dflt t41)).snd.fst !=
 (List.getD x.snd.fst.fst (Int.toNat a) (Ty.dflt t41)).snd.fst) =
 true →
 false = same x.fst x.snd.fst) ∧
 (((List.getD x.fst.fst (Int.toNat a) (Ty.dflt t41)).snd.fst !=
 (List.getD x.snd.fst.fst (Int.toNat a) (Ty.dflt t41)).snd.fst) =
 false →
 (((List.getD x.fst.fst (Int.toNat a) (Ty.dflt t41)).snd.snd.fst !=
 (List.getD x.snd.fst.fst (Int.toNat a)
 (Ty.dflt t41)).snd.snd.fst) =
 true →
 false = same x.fst x.snd.fst) ∧
 (((List.getD x.fst.fst (Int.toNat a) (Ty.dflt t41)).snd.snd.fst !=
 (List.getD x.snd.fst.fst (Int.toNat a)
 (Ty.dflt t41)).snd.snd.fst) =
 false →
 ((IntKind.wrap IntKind.i64 (a + (1 : Int)) =
 IntKind.wrap IntKind.i64 (a + (1 : Int)) ∧
 True ∧
 x.fst.fst = x.fst.fst ∧
 (↑(List.length x.fst.fst) : Int) =
 (↑(List.length x.fst.fst) : Int)) ∧
 x.snd.fst.fst = x.snd.fst.fst ∧
 x.snd.fst.snd.fst = x.snd.fst.snd.fst ∧
 x.snd.fst.snd.snd.fst = x.snd.fst.snd.snd.fst ∧
 x.snd.fst.snd.snd.snd.fst = x.snd.fst.snd.snd.snd.fst ∧
 x.snd.fst.snd.snd.snd.snd.fst =
 x.snd.fst.snd.snd.snd.snd.fst ∧
 x.snd.fst.snd.snd.snd.snd.snd.fst =
 x.snd.fst.snd.snd.snd.snd.snd.fst ∧
 x.snd.fst.snd.snd.snd.snd.snd.snd.fst =
 x.snd.fst.snd.snd.snd.snd.snd.snd.fst) ∧
 Z (IntKind.wrap IntKind.i64 (a + (1 : Int)), ()) ∧
 μ (IntKind.wrap IntKind.i64 (a + (1 : Int)), ()) <
 μ (a, ()))))) ∧
 (decide (a < (↑(List.length x.fst.fst) : Int)) = false →
 true = same x.fst x.snd.fst)))))
theorem vcEq11 : fnVC E11 Try.f11 (bodyOf Try.f11) cSame = vc11 := by kernel_rfl
/- fn 12 -/
def hs12 : List (Nat × Nat × Hint) := []
def nm12 : List Nat := []
noncomputable def E12 : Env := env tab [] [] noGl hs12 nm12
def vc12 : Prop :=
 ∀ (x : (Int × Int × Int × Int × Unit) × Int × Int × Unit),
 x.snd.fst ≤ (9223372036854775807 : Int) ∧ x.snd.snd.fst ≤ (9223372036854775807 : Int) →
 (decide (x.fst.fst ≥ (0 : Int)) = true →
 (decide (x.fst.snd.fst ≥ x.fst.fst) = true →
 (decide (x.fst.snd.fst ≤ x.snd.fst) = true →
 ((x.fst.snd.snd.fst == x.fst.fst) = true →
 (decide (x.fst.snd.snd.snd.fst ≥ x.fst.snd.snd.fst) = true →
 (decide (x.fst.snd.snd.snd.fst ≤ x.snd.snd.fst) = true →
 (IntKind.wrap IntKind.i64 (x.snd.fst - x.fst.snd.fst) ==
 IntKind.wrap IntKind.i64 (x.snd.snd.fst - x.fst.snd.snd.snd.fst)) =
 fits x.fst x.snd.fst x.snd.snd.fst) ∧
 (decide (x.fst.snd.snd.snd.fst ≤ x.snd.snd.fst) = false →
 false = fits x.fst x.snd.fst x.snd.snd.fst)) ∧
 (decide (x.fst.snd.snd.snd.fst ≥ x.fst.snd.snd.fst) = false →
 false = fits x.fst x.snd.fst x.snd.snd.fst)) ∧
 ((x.fst.snd.snd.fst == x.fst.fst) = false → false = fits x.fst x.snd.fst x.snd.snd.fst)) ∧
 (decide (x.fst.snd.fst ≤ x.snd.fst) = false → false = fits x.fst x.snd.fst x.snd.snd.fst)) ∧
 (decide (x.fst.snd.fst ≥ x.fst.fst) = false → false = fits x.fst x.snd.fst x.snd.snd.fst)) ∧
 (decide (x.fst.fst ≥ (0 : Int)) = false → false = fits x.fst x.snd.fst x.snd.snd.fst)
theorem vcEq12 : fnVC E12 Try.f12 (bodyOf Try.f12) cFits = vc12 := by kernel_rfl
/- fn 13 -/
def hs13 : List (Nat × Nat × Hint) := []
def nm13 : List Nat := []
noncomputable def E13 : Env := env tab [] [] noGl hs13 nm13
def vc13 : Prop :=
 ∀ (x : (Int × Int × Int × Int × Unit) × Int × Int × Unit),
 x.snd.fst ≤ (9223372036854775807 : Int) ∧ x.snd.snd.fst ≤ (9223372036854775807 : Int) →
 (decide (x.fst.fst < (0 : Int)) = true → false = fits x.fst x.snd.fst x.snd.snd.fst) ∧
 (decide (x.fst.fst < (0 : Int)) = false →
 (decide (x.fst.snd.fst < x.fst.fst) = true → false = fits x.fst x.snd.fst x.snd.snd.fst) ∧
 (decide (x.fst.snd.fst < x.fst.fst) = false →
 (decide (x.fst.snd.fst > x.snd.fst) = true → false = fits x.fst x.snd.fst x.snd.snd.fst) ∧
 (decide (x.fst.snd.fst > x.snd.fst) = false →
 ((x.fst.snd.snd.fst == x.fst.fst) = true →
 (decide (x.fst.snd.snd.snd.fst ≥ x.fst.snd.snd.fst) = true →
 (decide (x.fst.snd.snd.snd.fst ≤ x.snd.snd.fst) = true →
 (IntKind.wrap IntKind.i64 (x.snd.fst - x.fst.snd.fst) ==
 IntKind.wrap IntKind.i64 (x.snd.snd.fst - x.fst.snd.snd.snd.fst)) =
 fits x.fst x.snd.fst x.snd.snd.fst) ∧
 (decide (x.fst.snd.snd.snd.fst ≤ x.snd.snd.fst) = false →
 false = fits x.fst x.snd.fst x.snd.snd.fst)) ∧
 (decide (x.fst.snd.snd.snd.fst ≥ x.fst.snd.snd.fst) = false →
 false = fits x.fst x.snd.fst x.snd.snd.fst)) ∧
 ((x.fst.snd.snd.fst == x.fst.fst) = false → false = fits x.fst x.snd.fst x.snd.snd.fst))))
theorem vcEq13 : fnVC E13 Try.f13 (bodyOf Try.f13) cFits = vc13 := by kernel_rfl
/- fn 14 -/
def hs14 : List (Nat × Nat × Hint) := [(0, 3, ⟨[.slot 3 t3, .slot 8 t3], [6, 7], [], []⟩)]
def nm14 : List Nat := []
noncomputable def E14 : Env := env tab [] [] noGl hs14 nm14
def vc14 : Prop :=
 ∀ (x : List Row × Unit),
 List.length x.fst ≤ maxLen →
 ((0 : Int) = (0 : Int) ∧
 (0 : Int) = (0 : Int) ∧ x.fst = x.fst ∧ (↑(List.length x.fst) : Int) = (↑(List.length x.fst) : Int)) ∧
 ∃ (Z : Int × Int × Unit → Prop),
 ∃ (μ : Int × Int × Unit → Nat),
 Z ((0 : Int), (0 : Int), ()) ∧
 ∀ (a a_1 : Int),
 Z (a, a_1, ()) →
 (decide (a_1 < (↑(List.length x.fst) : Int)) = true →
 ((0 : Int) ≤ a_1 ∧ a_1 < (↑(List.length x.fst) : Int)) ∧
 (decide
 (IntKind.wrap IntKind.i64
 (IntKind.wrap IntKind.i64
 (a + (↑(List.length (List.getD x.fst (Int.toNat a_1) (Ty.dflt t24)).fst) : Int)) +
 (1 : Int)) >
 (400 : Int)) =
 true →
 true = long x.fst) ∧
 (decide
 (IntKind.wrap IntKind.i64
 (IntKind.wrap IntKind.i64
 (a + (↑(List.length (List.getD x.fst (Int.toNat a_1) (Ty.dflt t24)).fst) : Int)) +
 (1 : Int)) >
 (400 : Int)) =
 false →
 (IntKind.wrap IntKind.i64 (a_1 + (1 : Int)) = IntKind.wrap IntKind.i64 (a_1 + (1 : Int)) ∧
 IntKind.wrap IntKind.i64
 (IntKind.wrap IntKind.i64
 (a +
 (↑(List.length (List.getD x.fst (Int.toNat a_1) (Ty.dflt t24)).fst) : Int)) +
 (1 : Int)) =
 IntKind.wrap IntKind.i64
 (IntKind.wrap IntKind.i64
 (a +
 (↑(List.length (List.getD x.fst (Int.toNat a_1) (Ty.dflt t24)).fst) : Int)) +
 (1 : Int)) ∧
 x.fst = x.fst ∧ (↑(List.length x.fst) : Int) = (↑(List.length x.fst) : Int)) ∧
 Z
 (IntKind.wrap IntKind.i64
 (IntKind.wrap IntKind.i64
 (a +
 (↑(List.length (List.getD x.fst (Int.toNat a_1) (Ty.dflt t24)).fst) : Int)) +
 (1 : Int)),
 IntKind.wrap IntKind.i64 (a_1 + (1 : Int)), ()) ∧
 μ
 (IntKind.wrap IntKind.i64
 (IntKind.wrap IntKind.i64
 (a +
 (↑(List.length (List.getD x.fst (Int.toNat a_1) (Ty.dflt t24)).fst) :
 Int)) +
 (1 : Int)),
 IntKind.wrap IntKind.i64 (a_1 + (1 : Int)), ()) <
 μ (a, a_1, ()))) ∧
 (decide (a_1 < (↑(List.length x.fst) : Int)) = false → false = long x.fst)
theorem vcEq14 : fnVC E14 Try.f14 (bodyOf Try.f14) cLong = vc14 := by kernel_rfl
/- fn 15 -/
def hs15 : List (Nat × Nat × Hint) := []
def nm15 : List Nat := []
noncomputable def E15 : Env := env tab [(12, cFits), (24, cEqRows), (10, cSame)] [] noGl hs15 nm15
def vc15 : Prop :=
 ∀
 (x :
 List Row ×
 List Row ×
 (Int × Int × Int × Int × Unit) × Unit),
 rows x.fst ∧ rows x.snd.fst →
 ((↑(List.length x.fst) : Int) ≤ (9223372036854775807 : Int) ∧
 (↑(List.length x.snd.fst) : Int) ≤ (9223372036854775807 : Int)) ∧
 (fits x.snd.snd.fst (↑(List.length x.fst) : Int) (↑(List.length x.snd.fst) : Int) = true →
 ((0 : Int) ≤ x.snd.snd.fst.fst ∧ x.snd.snd.fst.fst ≤ (↑(List.length x.fst) : Int)) ∧
 ((0 : Int) ≤ x.snd.snd.fst.snd.snd.fst ∧ x.snd.snd.fst.snd.snd.fst ≤ (↑(List.length x.snd.fst) : Int)) ∧
 (rows (List.take (Int.toNat x.snd.snd.fst.fst) x.fst) ∧
 rows (List.take (Int.toNat x.snd.snd.fst.snd.snd.fst) x.snd.fst)) ∧
 (all2 same (List.take (Int.toNat x.snd.snd.fst.fst) x.fst)
 (List.take (Int.toNat x.snd.snd.fst.snd.snd.fst) x.snd.fst) =
 true →
 ((0 : Int) ≤ x.snd.snd.fst.snd.fst ∧ x.snd.snd.fst.snd.fst ≤ (↑(List.length x.fst) : Int)) ∧
 ((0 : Int) ≤ x.snd.snd.fst.snd.snd.snd.fst ∧
 x.snd.snd.fst.snd.snd.snd.fst ≤ (↑(List.length x.snd.fst) : Int)) ∧
 (rows (List.drop (Int.toNat x.snd.snd.fst.snd.fst) x.fst) ∧
 rows (List.drop (Int.toNat x.snd.snd.fst.snd.snd.snd.fst) x.snd.fst)) ∧
 all2 same (List.drop (Int.toNat x.snd.snd.fst.snd.fst) x.fst)
 (List.drop (Int.toNat x.snd.snd.fst.snd.snd.snd.fst) x.snd.fst) =
 sound x.fst x.snd.fst x.snd.snd.fst) ∧
 (all2 same (List.take (Int.toNat x.snd.snd.fst.fst) x.fst)
 (List.take (Int.toNat x.snd.snd.fst.snd.snd.fst) x.snd.fst) =
 false →
 false = sound x.fst x.snd.fst x.snd.snd.fst)) ∧
 (fits x.snd.snd.fst (↑(List.length x.fst) : Int) (↑(List.length x.snd.fst) : Int) = false →
 false = sound x.fst x.snd.fst x.snd.snd.fst)
theorem vcEq15 : fnVC E15 Try.f15 (bodyOf Try.f15) cSound = vc15 := by kernel_rfl
/- fn 16 -/
def hs16 : List (Nat × Nat × Hint) := [(0, 4, ⟨[.slot 7 t3], [0, 1, 5], [5], []⟩),
  (0, 9, ⟨[.slot 8 t3], [0, 1, 5], [5], []⟩)]
def nm16 : List Nat := []
noncomputable def E16 : Env := env tab [(13, cFits), (11, cSame)] [] noGl hs16 nm16
def vc16 : Prop :=
 ∀
 (x :
 List Row ×
 List Row ×
 (Int × Int × Int × Int × Unit) × Unit),
 rows x.fst ∧ rows x.snd.fst →
 ((↑(List.length x.fst) : Int) ≤ (9223372036854775807 : Int) ∧
 (↑(List.length x.snd.fst) : Int) ≤ (9223372036854775807 : Int)) ∧
 ((!fits x.snd.snd.fst (↑(List.length x.fst) : Int) (↑(List.length x.snd.fst) : Int)) = true →
 false = sound x.fst x.snd.fst x.snd.snd.fst) ∧
 ((!fits x.snd.snd.fst (↑(List.length x.fst) : Int) (↑(List.length x.snd.fst) : Int)) = false →
 (((0 : Int) = (0 : Int) ∧ x.fst = x.fst ∧ x.snd.fst = x.snd.fst ∧ True) ∧
 x.snd.snd.fst.fst = x.snd.snd.fst.fst ∧
 x.snd.snd.fst.snd.fst = x.snd.snd.fst.snd.fst ∧
 x.snd.snd.fst.snd.snd.fst = x.snd.snd.fst.snd.snd.fst ∧
 x.snd.snd.fst.snd.snd.snd.fst = x.snd.snd.fst.snd.snd.snd.fst) ∧
 ∃ (Z : Int × Unit → Prop),
 ∃ (μ : Int × Unit → Nat),
 Z ((0 : Int), ()) ∧
 ∀ (a : Int),
 Z (a, ()) →
 (decide (a < x.snd.snd.fst.fst) = true →
 ((0 : Int) ≤ a ∧ a < (↑(List.length x.fst) : Int)) ∧
 ((0 : Int) ≤ a ∧ a < (↑(List.length x.snd.fst) : Int)) ∧
 (List.length (List.getD x.fst (Int.toNat a) (Ty.dflt t24)).fst ≤ maxLen ∧
 List.length (List.getD x.snd.fst (Int.toNat a) (Ty.dflt t24)).fst ≤ maxLen) ∧
 ((!same (List.getD x.fst (Int.toNat a) (Ty.dflt t24))
 (List.getD x.snd.fst (Int.toNat a) (Ty.dflt t24))) =
 true →
 false = sound x.fst x.snd.fst x.snd.snd.fst) ∧
 ((!same (List.getD x.fst (Int.toNat a) (Ty.dflt t24))
 (List.getD x.snd.fst (Int.toNat a) (Ty.dflt t24))) =
 false →
 ((IntKind.wrap IntKind.i64 (a + (1 : Int)) =
 IntKind.wrap IntKind.i64 (a + (1 : Int)) ∧
 x.fst = x.fst ∧ x.snd.fst = x.snd.fst ∧ True) ∧
 x.snd.snd.fst.fst = x.snd.snd.fst.fst ∧
 x.snd.snd.fst.snd.fst = x.snd.snd.fst.snd.fst ∧
 x.snd.snd.fst.snd.snd.fst = x.snd.snd.fst.snd.snd.fst ∧
 x.snd.snd.fst.snd.snd.snd.fst = x.snd.snd.fst.snd.snd.snd.fst) ∧
 Z (IntKind.wrap IntKind.i64 (a + (1 : Int)), ()) ∧
 μ (IntKind.wrap IntKind.i64 (a + (1 : Int)), ()) < μ (a, ()))) ∧
 (decide (a < x.snd.snd.fst.fst) = false →
 ((x.snd.snd.fst.snd.fst = x.snd.snd.fst.snd.fst ∧
 x.fst = x.fst ∧ x.snd.fst = x.snd.fst ∧ True) ∧
 x.snd.snd.fst.fst = x.snd.snd.fst.fst ∧
 x.snd.snd.fst.snd.fst = x.snd.snd.fst.snd.fst ∧
 x.snd.snd.fst.snd.snd.fst = x.snd.snd.fst.snd.snd.fst ∧
 x.snd.snd.fst.snd.snd.snd.fst = x.snd.snd.fst.snd.snd.snd.fst) ∧
 ∃ (Z : Int × Unit → Prop),
 ∃ (μ : Int × Unit → Nat),
 Z (x.snd.snd.fst.snd.fst, ()) ∧
 ∀ (a : Int),
 Z (a, ()) →
 (decide (a < (↑(List.length x.fst) : Int)) = true →
 ((0 : Int) ≤ a ∧ a < (↑(List.length x.fst) : Int)) ∧
 ((0 : Int) ≤
 IntKind.wrap IntKind.i64
 (IntKind.wrap IntKind.i64 (a - x.snd.snd.fst.snd.fst) +
 x.snd.snd.fst.snd.snd.snd.fst) ∧
 IntKind.wrap IntKind.i64
 (IntKind.wrap IntKind.i64 (a - x.snd.snd.fst.snd.fst) +
 x.snd.snd.fst.snd.snd.snd.fst) <
 (↑(List.length x.snd.fst) : Int)) ∧
 (List.length (List.getD x.fst (Int.toNat a) (Ty.dflt t24)).fst ≤ maxLen ∧
 List.length
 (List.getD x.snd.fst
 (Int.toNat
 (IntKind.wrap IntKind.i64
 (IntKind.wrap IntKind.i64 (a - x.snd.snd.fst.snd.fst) +
 x.snd.snd.fst.snd.snd.snd.fst)))
 (Ty.dflt t24)).fst ≤
 maxLen) ∧
 ((!same (List.getD x.fst (Int.toNat a) (Ty.dflt t24))
 (List.getD x.snd.fst
 (Int.toNat
 (IntKind.wrap IntKind.i64
 (IntKind.wrap IntKind.i64 (a - x.snd.snd.fst.snd.fst) +
 x.snd.snd.fst.snd.snd.snd.fst)))
 (Ty.dflt t24))) =
 true →
 false = sound x.fst x.snd.fst x.snd.snd.fst) ∧
 ((!same (List.getD x.fst (Int.toNat a) (Ty.dflt t24))
 (List.getD x.snd.fst
 (Int.toNat
 (IntKind.wrap IntKind.i64
 (IntKind.wrap IntKind.i64 (a - x.snd.snd.fst.snd.fst) +
 x.snd.snd.fst.snd.snd.snd.fst)))
 (Ty.dflt t24))) =
 false →
 ((IntKind.wrap IntKind.i64 (a + (1 : Int)) =
 IntKind.wrap IntKind.i64 (a + (1 : Int)) ∧
 x.fst = x.fst ∧ x.snd.fst = x.snd.fst ∧ True) ∧
 x.snd.snd.fst.fst = x.snd.snd.fst.fst ∧
 x.snd.snd.fst.snd.fst = x.snd.snd.fst.snd.fst ∧
 x.snd.snd.fst.snd.snd.fst = x.snd.snd.fst.snd.snd.fst ∧
 x.snd.snd.fst.snd.snd.snd.fst =
 x.snd.snd.fst.snd.snd.snd.fst) ∧
 Z (IntKind.wrap IntKind.i64 (a + (1 : Int)), ()) ∧
 μ (IntKind.wrap IntKind.i64 (a + (1 : Int)), ()) < μ (a, ()))) ∧
 (decide (a < (↑(List.length x.fst) : Int)) = false →
 true = sound x.fst x.snd.fst x.snd.snd.fst)))
theorem vcEq16 : fnVC E16 Try.f16 (bodyOf Try.f16) cSound = vc16 := by kernel_rfl
/- fn 17 -/
def hs17 : List (Nat × Nat × Hint) := [(300044, 2, ⟨[.slot 300051 t3], [300044, 300045, 300046, 0, 1, 4, 6, 7, 8], [4, 260045, 100260045, 280045, 100280045], []⟩)]
def nm17 : List Nat := []
noncomputable def E17 : Env := env tab [(10, cSame)] [(25, Try.f25), (26, Try.f26), (27, Try.f27), (28, Try.f28), (29, Try.f29)] noGl hs17 nm17
def vc17 : Prop :=
 ∀
 (x :
 List Row ×
 List Row × Unit),
 rows x.fst ∧ rows x.snd.fst →
 (((0 : Int) = (0 : Int) ∧
 ((if (↑(List.length x.snd.fst) : Int) < (↑(List.length x.fst) : Int) then (↑(List.length x.snd.fst) : Int)
 else (↑(List.length x.fst) : Int)) =
 if (↑(List.length x.snd.fst) : Int) < (↑(List.length x.fst) : Int) then (↑(List.length x.snd.fst) : Int)
 else (↑(List.length x.fst) : Int)) ∧
 True ∧
 True ∧
 x.fst = x.fst ∧
 x.snd.fst = x.snd.fst ∧
 True ∧
 Value.func (Fn.func (27 : Nat)) #[] #[] = Value.func (Fn.func (27 : Nat)) #[] #[] ∧
 ((if (↑(List.length x.snd.fst) : Int) < (↑(List.length x.fst) : Int) then
 (↑(List.length x.snd.fst) : Int)
 else (↑(List.length x.fst) : Int)) =
 if (↑(List.length x.snd.fst) : Int) < (↑(List.length x.fst) : Int) then
 (↑(List.length x.snd.fst) : Int)
 else (↑(List.length x.fst) : Int)) ∧
 True) ∧
 ((0 : Int) = (0 : Int) ∧ (0 : Int) = (0 : Int) ∧ (0 : Int) = (0 : Int) ∧ (0 : Int) = (0 : Int)) ∧
 x.fst = x.fst ∧ x.snd.fst = x.snd.fst) ∧
 ∃ (Z : Int × Unit → Prop),
 ∃ (μ : Int × Unit → Nat),
 Z ((0 : Int), ()) ∧
 ∀ (a : Int),
 Z (a, ()) →
 (decide
 (a <
 if (↑(List.length x.snd.fst) : Int) < (↑(List.length x.fst) : Int) then
 (↑(List.length x.snd.fst) : Int)
 else (↑(List.length x.fst) : Int)) =
 true →
 ((0 : Int) ≤ a ∧ a < (↑(List.length x.fst) : Int)) ∧
 ((0 : Int) ≤ a ∧ a < (↑(List.length x.snd.fst) : Int)) ∧
 (List.length (List.getD x.fst (Int.toNat a) (Ty.dflt t24)).fst ≤ maxLen ∧
 List.length (List.getD x.snd.fst (Int.toNat a) (Ty.dflt t24)).fst ≤ maxLen) ∧
 (same (List.getD x.fst (Int.toNat a) (Ty.dflt t24))
 (List.getD x.snd.fst (Int.toNat a) (Ty.dflt t24)) =
 true →
 ((IntKind.wrap IntKind.i64 (a + (1 : Int)) = IntKind.wrap IntKind.i64 (a + (1 : Int)) ∧
 ((if (↑(List.length x.snd.fst) : Int) < (↑(List.length x.fst) : Int) then
 (↑(List.length x.snd.fst) : Int)
 else (↑(List.length x.fst) : Int)) =
 if (↑(List.length x.snd.fst) : Int) < (↑(List.length x.fst) : Int) then
 (↑(List.length x.snd.fst) : Int)
 else (↑(List.length x.fst) : Int)) ∧
 True ∧
 True ∧
 x.fst = x.fst ∧
 x.snd.fst = x.snd.fst ∧
 True ∧
 Value.func (Fn.func (27 : Nat)) #[] #[] =
 Value.func (Fn.func (27 : Nat)) #[] #[] ∧
 ((if
 (↑(List.length x.snd.fst) : Int) <
 (↑(List.length x.fst) : Int) then
 (↑(List.length x.snd.fst) : Int)
 else (↑(List.length x.fst) : Int)) =
 if
 (↑(List.length x.snd.fst) : Int) <
 (↑(List.length x.fst) : Int) then
 (↑(List.length x.snd.fst) : Int)
 else (↑(List.length x.fst) : Int)) ∧
 True) ∧
 ((0 : Int) = (0 : Int) ∧
 (0 : Int) = (0 : Int) ∧ (0 : Int) = (0 : Int) ∧ (0 : Int) = (0 : Int)) ∧
 x.fst = x.fst ∧ x.snd.fst = x.snd.fst) ∧
 Z (IntKind.wrap IntKind.i64 (a + (1 : Int)), ()) ∧
 μ (IntKind.wrap IntKind.i64 (a + (1 : Int)), ()) < μ (a, ())) ∧
 (same (List.getD x.fst (Int.toNat a) (Ty.dflt t24))
 (List.getD x.snd.fst (Int.toNat a) (Ty.dflt t24)) =
 false →
 (((0 : Int) = (0 : Int) ∧
 IntKind.wrap IntKind.i64
 ((if (↑(List.length x.snd.fst) : Int) < (↑(List.length x.fst) : Int) then
 (↑(List.length x.snd.fst) : Int)
 else (↑(List.length x.fst) : Int)) -
 a) =
 IntKind.wrap IntKind.i64
 ((if (↑(List.length x.snd.fst) : Int) < (↑(List.length x.fst) : Int) then
 (↑(List.length x.snd.fst) : Int)
 else (↑(List.length x.fst) : Int)) -
 a) ∧
 True ∧
 True ∧
 x.fst = x.fst ∧
 x.snd.fst = x.snd.fst ∧
 True ∧
 Value.func (Fn.func (27 : Nat)) #[] #[] =
 Value.func (Fn.func (27 : Nat)) #[] #[] ∧
 ((if
 (↑(List.length x.snd.fst) : Int) <
 (↑(List.length x.fst) : Int) then
 (↑(List.length x.snd.fst) : Int)
 else (↑(List.length x.fst) : Int)) =
 if
 (↑(List.length x.snd.fst) : Int) <
 (↑(List.length x.fst) : Int) then
 (↑(List.length x.snd.fst) : Int)
 else (↑(List.length x.fst) : Int)) ∧
 a = a) ∧
 ((0 : Int) = (0 : Int) ∧
 (0 : Int) = (0 : Int) ∧ (0 : Int) = (0 : Int) ∧ (0 : Int) = (0 : Int)) ∧
 x.fst = x.fst ∧ x.snd.fst = x.snd.fst ∧ x.fst = x.fst ∧ x.snd.fst = x.snd.fst) ∧
 ∃ (Z : Int × Unit → Prop),
 ∃ (μ : Int × Unit → Nat),
 Z ((0 : Int), ()) ∧
 ∀ (a_4 : Int),
 Z (a_4, ()) →
 (decide
 (a_4 <
 IntKind.wrap IntKind.i64
 ((if
 (↑(List.length x.snd.fst) : Int) <
 (↑(List.length x.fst) : Int) then
 (↑(List.length x.snd.fst) : Int)
 else (↑(List.length x.fst) : Int)) -
 a)) =
 true →
 ((0 : Int) ≤
 IntKind.wrap IntKind.i64
 (IntKind.wrap IntKind.i64
 ((↑(List.length x.fst) : Int) - (1 : Int)) -
 a_4) ∧
 IntKind.wrap IntKind.i64
 (IntKind.wrap IntKind.i64
 ((↑(List.length x.fst) : Int) - (1 : Int)) -
 a_4) <
 (↑(List.length x.fst) : Int)) ∧
 ((0 : Int) ≤
 IntKind.wrap IntKind.i64
 (IntKind.wrap IntKind.i64
 ((↑(List.length x.snd.fst) : Int) - (1 : Int)) -
 a_4) ∧
 IntKind.wrap IntKind.i64
 (IntKind.wrap IntKind.i64
 ((↑(List.length x.snd.fst) : Int) - (1 : Int)) -
 a_4) <
 (↑(List.length x.snd.fst) : Int)) ∧
 (List.length
 (List.getD x.fst
 (Int.toNat
 (IntKind.wrap IntKind.i64
 (IntKind.wrap IntKind.i64
 ((↑(List.length x.fst) : Int) - (1 : Int)) -
 a_4)))
 (Ty.dflt t24)).fst ≤
 maxLen ∧
 List.length
 (List.getD x.snd.fst
 (Int.toNat
 (IntKind.wrap IntKind.i64
 (IntKind.wrap IntKind.i64
 ((↑(List.length x.snd.fst) : Int) - (1 : Int)) -
 a_4)))
 (Ty.dflt t24)).fst ≤
 maxLen) ∧
 (same
 (List.getD x.fst
 (Int.toNat
 (IntKind.wrap IntKind.i64
 (IntKind.wrap IntKind.i64
 ((↑(List.length x.fst) : Int) - (1 : Int)) -
 a_4)))
 (Ty.dflt t24))
 (List.getD x.snd.fst
 (Int.toNat
 (IntKind.wrap IntKind.i64
 (IntKind.wrap IntKind.i64
 ((↑(List.length x.snd.fst) : Int) - (1 : Int)) -
 a_4)))
 (Ty.dflt t24)) =
 true →
 ((IntKind.wrap IntKind.i64 (a_4 + (1 : Int)) =
 IntKind.wrap IntKind.i64 (a_4 + (1 : Int)) ∧
 IntKind.wrap IntKind.i64
 ((if
 (↑(List.length x.snd.fst) : Int) <
 (↑(List.length x.fst) : Int) then
 (↑(List.length x.snd.fst) : Int)
 else (↑(List.length x.fst) : Int)) -
 a) =
 IntKind.wrap IntKind.i64
 ((if
 (↑(List.length x.snd.fst) : Int) <
 (↑(List.length x.fst) : Int) then
 (↑(List.length x.snd.fst) : Int)
 else (↑(List.length x.fst) : Int)) -
 a) ∧
 True ∧
 True ∧
 x.fst = x.fst ∧
 x.snd.fst = x.snd.fst ∧
 True ∧
 Value.func (Fn.func (27 : Nat)) #[] #[] =
 Value.func (Fn.func (27 : Nat)) #[] #[] ∧
 ((if
 (↑(List.length x.snd.fst) : Int) <
 (↑(List.length x.fst) : Int) then
 (↑(List.length x.snd.fst) : Int)
 else (↑(List.length x.fst) : Int)) =
 if
 (↑(List.length x.snd.fst) : Int) <
 (↑(List.length x.fst) : Int) then
 (↑(List.length x.snd.fst) : Int)
 else (↑(List.length x.fst) : Int)) ∧
 a = a) ∧
 ((0 : Int) = (0 : Int) ∧
 (0 : Int) = (0 : Int) ∧
 (0 : Int) = (0 : Int) ∧ (0 : Int) = (0 : Int)) ∧
 x.fst = x.fst ∧
 x.snd.fst = x.snd.fst ∧
 x.fst = x.fst ∧ x.snd.fst = x.snd.fst) ∧
 Z (IntKind.wrap IntKind.i64 (a_4 + (1 : Int)), ()) ∧
 μ (IntKind.wrap IntKind.i64 (a_4 + (1 : Int)), ()) <
 μ (a_4, ())) ∧
 (same
 (List.getD x.fst
 (Int.toNat
 (IntKind.wrap IntKind.i64
 (IntKind.wrap IntKind.i64
 ((↑(List.length x.fst) : Int) - (1 : Int)) -
 a_4)))
 (Ty.dflt t24))
 (List.getD x.snd.fst
 (Int.toNat
 (IntKind.wrap IntKind.i64
 (IntKind.wrap IntKind.i64
 ((↑(List.length x.snd.fst) : Int) - (1 : Int)) -
 a_4)))
 (Ty.dflt t24)) =
 false →
 (a,
 IntKind.wrap IntKind.i64
 ((↑(List.length x.fst) : Int) - a_4),
 a,
 IntKind.wrap IntKind.i64
 ((↑(List.length x.snd.fst) : Int) - a_4),
 ()) =
 least x.fst x.snd.fst)) ∧
 (decide
 (a_4 <
 IntKind.wrap IntKind.i64
 ((if
 (↑(List.length x.snd.fst) : Int) <
 (↑(List.length x.fst) : Int) then
 (↑(List.length x.snd.fst) : Int)
 else (↑(List.length x.fst) : Int)) -
 a)) =
 false →
 (a, IntKind.wrap IntKind.i64 ((↑(List.length x.fst) : Int) - a_4), a,
 IntKind.wrap IntKind.i64 ((↑(List.length x.snd.fst) : Int) - a_4),
 ()) =
 least x.fst x.snd.fst))) ∧
 (decide
 (a <
 if (↑(List.length x.snd.fst) : Int) < (↑(List.length x.fst) : Int) then
 (↑(List.length x.snd.fst) : Int)
 else (↑(List.length x.fst) : Int)) =
 false →
 (((0 : Int) = (0 : Int) ∧
 IntKind.wrap IntKind.i64
 ((if (↑(List.length x.snd.fst) : Int) < (↑(List.length x.fst) : Int) then
 (↑(List.length x.snd.fst) : Int)
 else (↑(List.length x.fst) : Int)) -
 a) =
 IntKind.wrap IntKind.i64
 ((if (↑(List.length x.snd.fst) : Int) < (↑(List.length x.fst) : Int) then
 (↑(List.length x.snd.fst) : Int)
 else (↑(List.length x.fst) : Int)) -
 a) ∧
 True ∧
 True ∧
 x.fst = x.fst ∧
 x.snd.fst = x.snd.fst ∧
 True ∧
 Value.func (Fn.func (27 : Nat)) #[] #[] =
 Value.func (Fn.func (27 : Nat)) #[] #[] ∧
 ((if (↑(List.length x.snd.fst) : Int) < (↑(List.length x.fst) : Int) then
 (↑(List.length x.snd.fst) : Int)
 else (↑(List.length x.fst) : Int)) =
 if (↑(List.length x.snd.fst) : Int) < (↑(List.length x.fst) : Int) then
 (↑(List.length x.snd.fst) : Int)
 else (↑(List.length x.fst) : Int)) ∧
 a = a) ∧
 ((0 : Int) = (0 : Int) ∧
 (0 : Int) = (0 : Int) ∧ (0 : Int) = (0 : Int) ∧ (0 : Int) = (0 : Int)) ∧
 x.fst = x.fst ∧ x.snd.fst = x.snd.fst ∧ x.fst = x.fst ∧ x.snd.fst = x.snd.fst) ∧
 ∃ (Z : Int × Unit → Prop),
 ∃ (μ : Int × Unit → Nat),
 Z ((0 : Int), ()) ∧
 ∀ (a_3 : Int),
 Z (a_3, ()) →
 (decide
 (a_3 <
 IntKind.wrap IntKind.i64
 ((if (↑(List.length x.snd.fst) : Int) < (↑(List.length x.fst) : Int) then
 (↑(List.length x.snd.fst) : Int)
 else (↑(List.length x.fst) : Int)) -
 a)) =
 true →
 ((0 : Int) ≤
 IntKind.wrap IntKind.i64
 (IntKind.wrap IntKind.i64 ((↑(List.length x.fst) : Int) - (1 : Int)) -
 a_3) ∧
 IntKind.wrap IntKind.i64
 (IntKind.wrap IntKind.i64 ((↑(List.length x.fst) : Int) - (1 : Int)) -
 a_3) <
 (↑(List.length x.fst) : Int)) ∧
 ((0 : Int) ≤
 IntKind.wrap IntKind.i64
 (IntKind.wrap IntKind.i64 ((↑(List.length x.snd.fst) : Int) - (1 : Int)) -
 a_3) ∧
 IntKind.wrap IntKind.i64
 (IntKind.wrap IntKind.i64 ((↑(List.length x.snd.fst) : Int) - (1 : Int)) -
 a_3) <
 (↑(List.length x.snd.fst) : Int)) ∧
 (List.length
 (List.getD x.fst
 (Int.toNat
 (IntKind.wrap IntKind.i64
 (IntKind.wrap IntKind.i64
 ((↑(List.length x.fst) : Int) - (1 : Int)) -
 a_3)))
 (Ty.dflt t24)).fst ≤
 maxLen ∧
 List.length
 (List.getD x.snd.fst
 (Int.toNat
 (IntKind.wrap IntKind.i64
 (IntKind.wrap IntKind.i64
 ((↑(List.length x.snd.fst) : Int) - (1 : Int)) -
 a_3)))
 (Ty.dflt t24)).fst ≤
 maxLen) ∧
 (same
 (List.getD x.fst
 (Int.toNat
 (IntKind.wrap IntKind.i64
 (IntKind.wrap IntKind.i64
 ((↑(List.length x.fst) : Int) - (1 : Int)) -
 a_3)))
 (Ty.dflt t24))
 (List.getD x.snd.fst
 (Int.toNat
 (IntKind.wrap IntKind.i64
 (IntKind.wrap IntKind.i64
 ((↑(List.length x.snd.fst) : Int) - (1 : Int)) -
 a_3)))
 (Ty.dflt t24)) =
 true →
 ((IntKind.wrap IntKind.i64 (a_3 + (1 : Int)) =
 IntKind.wrap IntKind.i64 (a_3 + (1 : Int)) ∧
 IntKind.wrap IntKind.i64
 ((if
 (↑(List.length x.snd.fst) : Int) <
 (↑(List.length x.fst) : Int) then
 (↑(List.length x.snd.fst) : Int)
 else (↑(List.length x.fst) : Int)) -
 a) =
 IntKind.wrap IntKind.i64
 ((if
 (↑(List.length x.snd.fst) : Int) <
 (↑(List.length x.fst) : Int) then
 (↑(List.length x.snd.fst) : Int)
 else (↑(List.length x.fst) : Int)) -
 a) ∧
 True ∧
 True ∧
 x.fst = x.fst ∧
 x.snd.fst = x.snd.fst ∧
 True ∧
 Value.func (Fn.func (27 : Nat)) #[] #[] =
 Value.func (Fn.func (27 : Nat)) #[] #[] ∧
 ((if
 (↑(List.length x.snd.fst) : Int) <
 (↑(List.length x.fst) : Int) then
 (↑(List.length x.snd.fst) : Int)
 else (↑(List.length x.fst) : Int)) =
 if
 (↑(List.length x.snd.fst) : Int) <
 (↑(List.length x.fst) : Int) then
 (↑(List.length x.snd.fst) : Int)
 else (↑(List.length x.fst) : Int)) ∧
 a = a) ∧
 ((0 : Int) = (0 : Int) ∧
 (0 : Int) = (0 : Int) ∧
 (0 : Int) = (0 : Int) ∧ (0 : Int) = (0 : Int)) ∧
 x.fst = x.fst ∧
 x.snd.fst = x.snd.fst ∧ x.fst = x.fst ∧ x.snd.fst = x.snd.fst) ∧
 Z (IntKind.wrap IntKind.i64 (a_3 + (1 : Int)), ()) ∧
 μ (IntKind.wrap IntKind.i64 (a_3 + (1 : Int)), ()) < μ (a_3, ())) ∧
 (same
 (List.getD x.fst
 (Int.toNat
 (IntKind.wrap IntKind.i64
 (IntKind.wrap IntKind.i64
 ((↑(List.length x.fst) : Int) - (1 : Int)) -
 a_3)))
 (Ty.dflt t24))
 (List.getD x.snd.fst
 (Int.toNat
 (IntKind.wrap IntKind.i64
 (IntKind.wrap IntKind.i64
 ((↑(List.length x.snd.fst) : Int) - (1 : Int)) -
 a_3)))
 (Ty.dflt t24)) =
 false →
 (a, IntKind.wrap IntKind.i64 ((↑(List.length x.fst) : Int) - a_3), a,
 IntKind.wrap IntKind.i64 ((↑(List.length x.snd.fst) : Int) - a_3),
 ()) =
 least x.fst x.snd.fst)) ∧
 (decide
 (a_3 <
 IntKind.wrap IntKind.i64
 ((if (↑(List.length x.snd.fst) : Int) < (↑(List.length x.fst) : Int) then
 (↑(List.length x.snd.fst) : Int)
 else (↑(List.length x.fst) : Int)) -
 a)) =
 false →
 (a, IntKind.wrap IntKind.i64 ((↑(List.length x.fst) : Int) - a_3), a,
 IntKind.wrap IntKind.i64 ((↑(List.length x.snd.fst) : Int) - a_3), ()) =
 least x.fst x.snd.fst))
theorem vcEq17 : fnVC E17 Try.f17 (bodyOf Try.f17) cLeast = vc17 := by kernel_rfl
/- fn 18 -/
def hs18 : List (Nat × Nat × Hint) := [(0, 2, ⟨[.cell 5 0 t3], [0, 1, 4, 5], [4, 5], []⟩),
  (0, 5, ⟨[.cell 5 1 t3, .cell 5 3 t3], [0, 1, 4, 5], [4, 5], []⟩)]
def nm18 : List Nat := []
noncomputable def E18 : Env := env tab [(11, cSame)] [] noGl hs18 nm18
def vc18 : Prop :=
 ∀
 (x :
 List Row ×
 List Row × Unit),
 rows x.fst ∧ rows x.snd.fst →
 ((x.fst = x.fst ∧ x.snd.fst = x.snd.fst ∧ True ∧ True) ∧
 ((0 : Int) = (0 : Int) ∧ (0 : Int) = (0 : Int) ∧ (0 : Int) = (0 : Int) ∧ (0 : Int) = (0 : Int)) ∧
 (0 : Int) = (0 : Int) ∧
 (↑(List.length x.fst) : Int) = (↑(List.length x.fst) : Int) ∧
 (0 : Int) = (0 : Int) ∧ (↑(List.length x.snd.fst) : Int) = (↑(List.length x.snd.fst) : Int)) ∧
 ∃ (Z : Int × Unit → Prop),
 ∃ (μ : Int × Unit → Nat),
 Z ((0 : Int), ()) ∧
 ∀ (a : Int),
 Z (a, ()) →
 (decide (a < (↑(List.length x.fst) : Int)) = true →
 (decide (a < (↑(List.length x.snd.fst) : Int)) = true →
 ((0 : Int) ≤ a ∧ a < (↑(List.length x.fst) : Int)) ∧
 ((0 : Int) ≤ a ∧ a < (↑(List.length x.snd.fst) : Int)) ∧
 (List.length (List.getD x.fst (Int.toNat a) (Ty.dflt t24)).fst ≤ maxLen ∧
 List.length (List.getD x.snd.fst (Int.toNat a) (Ty.dflt t24)).fst ≤ maxLen) ∧
 (same (List.getD x.fst (Int.toNat a) (Ty.dflt t24))
 (List.getD x.snd.fst (Int.toNat a) (Ty.dflt t24)) =
 true →
 ((x.fst = x.fst ∧ x.snd.fst = x.snd.fst ∧ True ∧ True) ∧
 ((0 : Int) = (0 : Int) ∧
 (0 : Int) = (0 : Int) ∧ (0 : Int) = (0 : Int) ∧ (0 : Int) = (0 : Int)) ∧
 IntKind.wrap IntKind.i64 (a + (1 : Int)) =
 IntKind.wrap IntKind.i64 (a + (1 : Int)) ∧
 (↑(List.length x.fst) : Int) = (↑(List.length x.fst) : Int) ∧
 (0 : Int) = (0 : Int) ∧
 (↑(List.length x.snd.fst) : Int) = (↑(List.length x.snd.fst) : Int)) ∧
 Z (IntKind.wrap IntKind.i64 (a + (1 : Int)), ()) ∧
 μ (IntKind.wrap IntKind.i64 (a + (1 : Int)), ()) < μ (a, ())) ∧
 (same (List.getD x.fst (Int.toNat a) (Ty.dflt t24))
 (List.getD x.snd.fst (Int.toNat a) (Ty.dflt t24)) =
 false →
 ((x.fst = x.fst ∧ x.snd.fst = x.snd.fst ∧ True ∧ True) ∧
 ((0 : Int) = (0 : Int) ∧
 (0 : Int) = (0 : Int) ∧ (0 : Int) = (0 : Int) ∧ (0 : Int) = (0 : Int)) ∧
 a = a ∧
 (↑(List.length x.fst) : Int) = (↑(List.length x.fst) : Int) ∧
 a = a ∧
 (↑(List.length x.snd.fst) : Int) = (↑(List.length x.snd.fst) : Int)) ∧
 ∃ (Z : Int × Int × Unit → Prop),
 ∃ (μ : Int × Int × Unit → Nat),
 Z ((↑(List.length x.fst) : Int), (↑(List.length x.snd.fst) : Int), ()) ∧
 ∀ (a_5 a_6 : Int),
 Z (a_5, a_6, ()) →
 (decide (a_5 > a) = true →
 (decide (a_6 > a) = true →
 ((0 : Int) ≤ IntKind.wrap IntKind.i64 (a_5 - (1 : Int)) ∧
 IntKind.wrap IntKind.i64 (a_5 - (1 : Int)) <
 (↑(List.length x.fst) : Int)) ∧
 ((0 : Int) ≤ IntKind.wrap IntKind.i64 (a_6 - (1 : Int)) ∧
 IntKind.wrap IntKind.i64 (a_6 - (1 : Int)) <
 (↑(List.length x.snd.fst) : Int)) ∧
 (List.length
 (List.getD x.fst
 (Int.toNat
 (IntKind.wrap IntKind.i64 (a_5 - (1 : Int))))
 (Ty.dflt t24)).fst ≤
 maxLen ∧
 List.length
 (List.getD x.snd.fst
 (Int.toNat
 (IntKind.wrap IntKind.i64 (a_6 - (1 : Int))))
 (Ty.dflt t24)).fst ≤
 maxLen) ∧
 (same
 (List.getD x.fst
 (Int.toNat
 (IntKind.wrap IntKind.i64 (a_5 - (1 : Int))))
 (Ty.dflt t24))
 (List.getD x.snd.fst
 (Int.toNat
 (IntKind.wrap IntKind.i64 (a_6 - (1 : Int))))
 (Ty.dflt t24)) =
 true →
 ((x.fst = x.fst ∧ x.snd.fst = x.snd.fst ∧ True ∧ True) ∧
 ((0 : Int) = (0 : Int) ∧
 (0 : Int) = (0 : Int) ∧
 (0 : Int) = (0 : Int) ∧
 (0 : Int) = (0 : Int)) ∧
 a = a ∧
 IntKind.wrap IntKind.i64 (a_5 - (1 : Int)) =
 IntKind.wrap IntKind.i64 (a_5 - (1 : Int)) ∧
 a = a ∧
 IntKind.wrap IntKind.i64 (a_6 - (1 : Int)) =
 IntKind.wrap IntKind.i64
 (a_6 - (1 : Int))) ∧
 Z
 (IntKind.wrap IntKind.i64 (a_5 - (1 : Int)),
 IntKind.wrap IntKind.i64 (a_6 - (1 : Int)),
 ()) ∧
 μ
 (IntKind.wrap IntKind.i64 (a_5 - (1 : Int)),
 IntKind.wrap IntKind.i64 (a_6 - (1 : Int)),
 ()) <
 μ (a_5, a_6, ())) ∧
 (same
 (List.getD x.fst
 (Int.toNat
 (IntKind.wrap IntKind.i64 (a_5 - (1 : Int))))
 (Ty.dflt t24))
 (List.getD x.snd.fst
 (Int.toNat
 (IntKind.wrap IntKind.i64 (a_6 - (1 : Int))))
 (Ty.dflt t24)) =
 false →
 (a, a_5, a, a_6, ()) = least x.fst x.snd.fst)) ∧
 (decide (a_6 > a) = false →
 (a, a_5, a, a_6, ()) = least x.fst x.snd.fst)) ∧
 (decide (a_5 > a) = false →
 (a, a_5, a, a_6, ()) = least x.fst x.snd.fst))) ∧
 (decide (a < (↑(List.length x.snd.fst) : Int)) = false →
 ((x.fst = x.fst ∧ x.snd.fst = x.snd.fst ∧ True ∧ True) ∧
 ((0 : Int) = (0 : Int) ∧
 (0 : Int) = (0 : Int) ∧ (0 : Int) = (0 : Int) ∧ (0 : Int) = (0 : Int)) ∧
 a = a ∧
 (↑(List.length x.fst) : Int) = (↑(List.length x.fst) : Int) ∧
 a = a ∧ (↑(List.length x.snd.fst) : Int) = (↑(List.length x.snd.fst) : Int)) ∧
 ∃ (Z : Int × Int × Unit → Prop),
 ∃ (μ : Int × Int × Unit → Nat),
 Z ((↑(List.length x.fst) : Int), (↑(List.length x.snd.fst) : Int), ()) ∧
 ∀ (a_4 a_5 : Int),
 Z (a_4, a_5, ()) →
 (decide (a_4 > a) = true →
 (decide (a_5 > a) = true →
 ((0 : Int) ≤ IntKind.wrap IntKind.i64 (a_4 - (1 : Int)) ∧
 IntKind.wrap IntKind.i64 (a_4 - (1 : Int)) <
 (↑(List.length x.fst) : Int)) ∧
 ((0 : Int) ≤ IntKind.wrap IntKind.i64 (a_5 - (1 : Int)) ∧
 IntKind.wrap IntKind.i64 (a_5 - (1 : Int)) <
 (↑(List.length x.snd.fst) : Int)) ∧
 (List.length
 (List.getD x.fst
 (Int.toNat (IntKind.wrap IntKind.i64 (a_4 - (1 : Int))))
 (Ty.dflt t24)).fst ≤
 maxLen ∧
 List.length
 (List.getD x.snd.fst
 (Int.toNat (IntKind.wrap IntKind.i64 (a_5 - (1 : Int))))
 (Ty.dflt t24)).fst ≤
 maxLen) ∧
 (same
 (List.getD x.fst
 (Int.toNat (IntKind.wrap IntKind.i64 (a_4 - (1 : Int))))
 (Ty.dflt t24))
 (List.getD x.snd.fst
 (Int.toNat (IntKind.wrap IntKind.i64 (a_5 - (1 : Int))))
 (Ty.dflt t24)) =
 true →
 ((x.fst = x.fst ∧ x.snd.fst = x.snd.fst ∧ True ∧ True) ∧
 ((0 : Int) = (0 : Int) ∧
 (0 : Int) = (0 : Int) ∧
 (0 : Int) = (0 : Int) ∧ (0 : Int) = (0 : Int)) ∧
 a = a ∧
 IntKind.wrap IntKind.i64 (a_4 - (1 : Int)) =
 IntKind.wrap IntKind.i64 (a_4 - (1 : Int)) ∧
 a = a ∧
 IntKind.wrap IntKind.i64 (a_5 - (1 : Int)) =
 IntKind.wrap IntKind.i64 (a_5 - (1 : Int))) ∧
 Z
 (IntKind.wrap IntKind.i64 (a_4 - (1 : Int)),
 IntKind.wrap IntKind.i64 (a_5 - (1 : Int)), ()) ∧
 μ
 (IntKind.wrap IntKind.i64 (a_4 - (1 : Int)),
 IntKind.wrap IntKind.i64 (a_5 - (1 : Int)), ()) <
 μ (a_4, a_5, ())) ∧
 (same
 (List.getD x.fst
 (Int.toNat (IntKind.wrap IntKind.i64 (a_4 - (1 : Int))))
 (Ty.dflt t24))
 (List.getD x.snd.fst
 (Int.toNat (IntKind.wrap IntKind.i64 (a_5 - (1 : Int))))
 (Ty.dflt t24)) =
 false →
 (a, a_4, a, a_5, ()) = least x.fst x.snd.fst)) ∧
 (decide (a_5 > a) = false → (a, a_4, a, a_5, ()) = least x.fst x.snd.fst)) ∧
 (decide (a_4 > a) = false → (a, a_4, a, a_5, ()) = least x.fst x.snd.fst))) ∧
 (decide (a < (↑(List.length x.fst) : Int)) = false →
 ((x.fst = x.fst ∧ x.snd.fst = x.snd.fst ∧ True ∧ True) ∧
 ((0 : Int) = (0 : Int) ∧
 (0 : Int) = (0 : Int) ∧ (0 : Int) = (0 : Int) ∧ (0 : Int) = (0 : Int)) ∧
 a = a ∧
 (↑(List.length x.fst) : Int) = (↑(List.length x.fst) : Int) ∧
 a = a ∧ (↑(List.length x.snd.fst) : Int) = (↑(List.length x.snd.fst) : Int)) ∧
 ∃ (Z : Int × Int × Unit → Prop),
 ∃ (μ : Int × Int × Unit → Nat),
 Z ((↑(List.length x.fst) : Int), (↑(List.length x.snd.fst) : Int), ()) ∧
 ∀ (a_3 a_4 : Int),
 Z (a_3, a_4, ()) →
 (decide (a_3 > a) = true →
 (decide (a_4 > a) = true →
 ((0 : Int) ≤ IntKind.wrap IntKind.i64 (a_3 - (1 : Int)) ∧
 IntKind.wrap IntKind.i64 (a_3 - (1 : Int)) < (↑(List.length x.fst) : Int)) ∧
 ((0 : Int) ≤ IntKind.wrap IntKind.i64 (a_4 - (1 : Int)) ∧
 IntKind.wrap IntKind.i64 (a_4 - (1 : Int)) <
 (↑(List.length x.snd.fst) : Int)) ∧
 (List.length
 (List.getD x.fst
 (Int.toNat (IntKind.wrap IntKind.i64 (a_3 - (1 : Int))))
 (Ty.dflt t24)).fst ≤
 maxLen ∧
 List.length
 (List.getD x.snd.fst
 (Int.toNat (IntKind.wrap IntKind.i64 (a_4 - (1 : Int))))
 (Ty.dflt t24)).fst ≤
 maxLen) ∧
 (same
 (List.getD x.fst
 (Int.toNat (IntKind.wrap IntKind.i64 (a_3 - (1 : Int))))
 (Ty.dflt t24))
 (List.getD x.snd.fst
 (Int.toNat (IntKind.wrap IntKind.i64 (a_4 - (1 : Int))))
 (Ty.dflt t24)) =
 true →
 ((x.fst = x.fst ∧ x.snd.fst = x.snd.fst ∧ True ∧ True) ∧
 ((0 : Int) = (0 : Int) ∧
 (0 : Int) = (0 : Int) ∧
 (0 : Int) = (0 : Int) ∧ (0 : Int) = (0 : Int)) ∧
 a = a ∧
 IntKind.wrap IntKind.i64 (a_3 - (1 : Int)) =
 IntKind.wrap IntKind.i64 (a_3 - (1 : Int)) ∧
 a = a ∧
 IntKind.wrap IntKind.i64 (a_4 - (1 : Int)) =
 IntKind.wrap IntKind.i64 (a_4 - (1 : Int))) ∧
 Z
 (IntKind.wrap IntKind.i64 (a_3 - (1 : Int)),
 IntKind.wrap IntKind.i64 (a_4 - (1 : Int)), ()) ∧
 μ
 (IntKind.wrap IntKind.i64 (a_3 - (1 : Int)),
 IntKind.wrap IntKind.i64 (a_4 - (1 : Int)), ()) <
 μ (a_3, a_4, ())) ∧
 (same
 (List.getD x.fst
 (Int.toNat (IntKind.wrap IntKind.i64 (a_3 - (1 : Int))))
 (Ty.dflt t24))
 (List.getD x.snd.fst
 (Int.toNat (IntKind.wrap IntKind.i64 (a_4 - (1 : Int))))
 (Ty.dflt t24)) =
 false →
 (a, a_3, a, a_4, ()) = least x.fst x.snd.fst)) ∧
 (decide (a_4 > a) = false → (a, a_3, a, a_4, ()) = least x.fst x.snd.fst)) ∧
 (decide (a_3 > a) = false → (a, a_3, a, a_4, ()) = least x.fst x.snd.fst))
theorem vcEq18 : fnVC E18 Try.f18 (bodyOf Try.f18) cLeast = vc18 := by kernel_rfl
/- fn 21 -/
def hs21 : List (Nat × Nat × Hint) := []
def nm21 : List Nat := []
noncomputable def E21 : Env := env tab [] [] noGl hs21 nm21
def vc21 : Prop :=
 ∀ (x : Int × Unit),
 True →
 ([(x.fst, (1 : Int), (1 : Int), (0 : Int), ())], (0 : Int), (0 : Int), (0 : Int), false, false, (1 : Int), ()) =
 oneRow x.fst
theorem vcEq21 : fnVC E21 Try.f21 (bodyOf Try.f21) cRow = vc21 := by kernel_rfl
/- fn 23 -/
def hs23 : List (Nat × Nat × Hint) := []
def nm23 : List Nat := []
noncomputable def E23 : Env := env tab [] [] noGl hs23 nm23
def vc23 : Prop :=
 ∀ (x : (Int × Int × Int × Int × Unit) × (Int × Int × Int × Int × Unit) × Unit),
 True →
 Ty.beq t41 (x.fst.fst, x.fst.snd.fst, x.fst.snd.snd.fst, (0 : Int), ())
 (x.snd.fst.fst, x.snd.fst.snd.fst, x.snd.fst.snd.snd.fst, (0 : Int), ()) =
 alike x.fst x.snd.fst
theorem vcEq23 : fnVC E23 Try.f23 (bodyOf Try.f23) cAlike = vc23 := by kernel_rfl
/- fn 24 -/
def hs24 : List (Nat × Nat × Hint) := [(0, 4, ⟨[.slot 17 t3], [1, 2, 15, 16], [], []⟩)]
def nm24 : List Nat := []
noncomputable def E24 : Env := env tab [(10, cSame)] [] noGl hs24 nm24
def vc24 : Prop :=
 ∀
 (x :
 List Row ×
 List Row × Unit),
 rows x.fst ∧ rows x.snd.fst →
 (((↑(List.length x.fst) : Int) != (↑(List.length x.snd.fst) : Int)) = true → false = all2 same x.fst x.snd.fst) ∧
 (((↑(List.length x.fst) : Int) != (↑(List.length x.snd.fst) : Int)) = false →
 ((0 : Int) = (0 : Int) ∧
 x.snd.fst = x.snd.fst ∧
 Value.func (Fn.func (10 : FuncId)) #[] #[] = Value.func (Fn.func (10 : FuncId)) #[] #[] ∧
 x.fst = x.fst ∧ (↑(List.length x.fst) : Int) = (↑(List.length x.fst) : Int)) ∧
 ∃ (Z : Int × Unit → Prop),
 ∃ (μ : Int × Unit → Nat),
 Z ((0 : Int), ()) ∧
 ∀ (a : Int),
 Z (a, ()) →
 (decide (a < (↑(List.length x.fst) : Int)) = true →
 ((0 : Int) ≤ a ∧ a < (↑(List.length x.fst) : Int)) ∧
 ((0 : Int) ≤ a ∧ a < (↑(List.length x.snd.fst) : Int)) ∧
 (List.length (List.getD x.fst (Int.toNat a) (Ty.dflt t24)).fst ≤ maxLen ∧
 List.length (List.getD x.snd.fst (Int.toNat a) (Ty.dflt t24)).fst ≤ maxLen) ∧
 ((!same (List.getD x.fst (Int.toNat a) (Ty.dflt t24))
 (List.getD x.snd.fst (Int.toNat a) (Ty.dflt t24))) =
 true →
 false = all2 same x.fst x.snd.fst) ∧
 ((!same (List.getD x.fst (Int.toNat a) (Ty.dflt t24))
 (List.getD x.snd.fst (Int.toNat a) (Ty.dflt t24))) =
 false →
 (IntKind.wrap IntKind.i64 (a + (1 : Int)) = IntKind.wrap IntKind.i64 (a + (1 : Int)) ∧
 x.snd.fst = x.snd.fst ∧
 Value.func (Fn.func (10 : FuncId)) #[] #[] =
 Value.func (Fn.func (10 : FuncId)) #[] #[] ∧
 x.fst = x.fst ∧ (↑(List.length x.fst) : Int) = (↑(List.length x.fst) : Int)) ∧
 Z (IntKind.wrap IntKind.i64 (a + (1 : Int)), ()) ∧
 μ (IntKind.wrap IntKind.i64 (a + (1 : Int)), ()) < μ (a, ()))) ∧
 (decide (a < (↑(List.length x.fst) : Int)) = false → true = all2 same x.fst x.snd.fst))
theorem vcEq24 : fnVC E24 Try.f24 (bodyOf Try.f24) cEqRows = vc24 := by kernel_rfl
end Go.Fr.C25
