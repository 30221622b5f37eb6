/-
  Conditions to be proved, function by function, printed by a program. Conditions: none.
-/
import Derived.Test.YtpkdccmpadkmjaaC40A
namespace Go.Fr.C40
open Go Go.Fr Go.Proofs
set_option maxRecDepth 100000

/- fn 3 -/
def hs3 : List (Nat × Nat × Hint) := []
def nm3 : List Nat := [3000000025, 3000000026]
noncomputable def E3 : Env := env tab [(8, cThree), (9, cNew), (11, cRefs), (10, cRefNew), (12, cIs), (13, cAt), (14, cRefAt)] [] noGl hs3 nm3
def vc3 : Prop :=
 ∀ (x : Int × List (Int × Int × Int × Int × Unit) × Int × Unit),
 List.length x.snd.fst ≤ maxLen →
 (decide ((↑(List.length x.snd.fst) : Int) > (400 : Int)) = true → True ∧ true = true) ∧
 (decide ((↑(List.length x.snd.fst) : Int) > (400 : Int)) = false →
 List.length x.snd.fst ≤ maxLen ∧
 List.length x.snd.fst ≤ (1000000000 : Nat) ∧
 List.length x.snd.fst ≤ maxLen ∧
 (List.length (allM (newM x.fst x.snd.fst).fst) ≤ (10000 : Nat) ∧
 List.length (newW x.fst x.snd.fst).snd.fst ≤ (10000 : Nat)) ∧
 ((!isM (newM x.fst x.snd.fst).fst (newM x.fst x.snd.fst).snd.fst (newW x.fst x.snd.fst)) = true →
 false = true) ∧
 ((!isM (newM x.fst x.snd.fst).fst (newM x.fst x.snd.fst).snd.fst (newW x.fst x.snd.fst)) = false →
 (Option.isNone (newM x.fst x.snd.fst).fst = true → True ∧ true = true) ∧
 (Option.isNone (newM x.fst x.snd.fst).fst = false →
 okSet (newM x.fst x.snd.fst).fst ∧
 List.length (newW x.fst x.snd.fst).snd.fst ≤ (10000 : Nat) ∧
 ((atL (allM (newM x.fst x.snd.fst).fst) x.snd.snd.fst ==
 atL (newW x.fst x.snd.fst).snd.fst x.snd.snd.fst) =
 true →
 True ∧ true = true) ∧
 ((atL (allM (newM x.fst x.snd.fst).fst) x.snd.snd.fst ==
 atL (newW x.fst x.snd.fst).snd.fst x.snd.snd.fst) =
 false →
 false = true))))
theorem vcEq3 : fnVC E3 Try.f3 (bodyOf Try.f3) cMarksNew = vc3 := by kernel_rfl
/- fn 4 -/
def hs4 : List (Nat × Nat × Hint) := [(0, 12, ⟨[.slot 9 t3, .slot 10 t3], [0, 5, 7, 8], [7], []⟩),
  (0, 16, ⟨[.slot 11 t4, .slot 49 t3], [0, 5, 7, 8, 9, 10, 47, 48], [7], []⟩)]
def nm4 : List Nat := [3000000025, 3000000026]
noncomputable def E4 : Env := env tab [(8, cThree), (9, cNew), (11, cRefs), (10, cRefNew), (12, cIs), (15, cEdges), (13, cAt), (17, cRefEdges), (16, cInts)] [] noGl hs4 nm4
def vc4 : Prop :=
 ∀ (x : Int × List (Int × Int × Int × Int × Unit) × Unit),
 List.length x.snd.fst ≤ maxLen →
 (decide ((↑(List.length x.snd.fst) : Int) > (60 : Int)) = true → True ∧ true = true) ∧
 (decide ((↑(List.length x.snd.fst) : Int) > (60 : Int)) = false →
 (decide (x.fst > (300 : Int)) = true → True ∧ true = true) ∧
 (decide (x.fst > (300 : Int)) = false →
 List.length x.snd.fst ≤ maxLen ∧
 List.length x.snd.fst ≤ (1000000000 : Nat) ∧
 List.length x.snd.fst ≤ maxLen ∧
 (List.length (allM (newM x.fst x.snd.fst).fst) ≤ (10000 : Nat) ∧
 List.length (newW x.fst x.snd.fst).snd.fst ≤ (10000 : Nat)) ∧
 ((!isM (newM x.fst x.snd.fst).fst (newM x.fst x.snd.fst).snd.fst (newW x.fst x.snd.fst)) = true →
 false = true) ∧
 ((!isM (newM x.fst x.snd.fst).fst (newM x.fst x.snd.fst).snd.fst (newW x.fst x.snd.fst)) = false →
 (Option.isNone (newM x.fst x.snd.fst).fst = true → True ∧ true = true) ∧
 (Option.isNone (newM x.fst x.snd.fst).fst = false →
 okSet (newM x.fst x.snd.fst).fst ∧
 (((0 : Int) = (0 : Int) ∧
 (0 : Int) = (0 : Int) ∧
 x.fst = x.fst ∧
 (newM x.fst x.snd.fst).fst = (newM x.fst x.snd.fst).fst ∧
 True ∧
 edgesL (allM (newM x.fst x.snd.fst).fst) =
 edgesL (allM (newM x.fst x.snd.fst).fst)) ∧
 (newW x.fst x.snd.fst).fst = (newW x.fst x.snd.fst).fst ∧
 (newW x.fst x.snd.fst).snd.fst = (newW x.fst x.snd.fst).snd.fst ∧
 (newW x.fst x.snd.fst).snd.snd.fst = (newW x.fst x.snd.fst).snd.snd.fst) ∧
 ∃ (Z : Int × Int × Unit → Prop),
 ∃ (μ : Int × Int × Unit → Nat),
 Z ((0 : Int), (0 : Int), ()) ∧
 ∀ (a a_1 : Int),
 Z (a, a_1, ()) →
 (decide (a_1 ≤ x.fst) = true →
 (((0 : Int) = (0 : Int) ∧
 false = false ∧
 x.fst = x.fst ∧
 (newM x.fst x.snd.fst).fst = (newM x.fst x.snd.fst).fst ∧
 True ∧
 edgesL (allM (newM x.fst x.snd.fst).fst) =
 edgesL (allM (newM x.fst x.snd.fst).fst) ∧
 a = a ∧
 a_1 = a_1 ∧
 edgesL (allM (newM x.fst x.snd.fst).fst) =
 edgesL (allM (newM x.fst x.snd.fst).fst) ∧
 (↑(List.length
 (edgesL
 (allM (newM x.fst x.snd.fst).fst))) :
 Int) =
 (↑(List.length
 (edgesL
 (allM (newM x.fst x.snd.fst).fst))) :
 Int)) ∧
 (newW x.fst x.snd.fst).fst = (newW x.fst x.snd.fst).fst ∧
 (newW x.fst x.snd.fst).snd.fst = (newW x.fst x.snd.fst).snd.fst ∧
 (newW x.fst x.snd.fst).snd.snd.fst =
 (newW x.fst x.snd.fst).snd.snd.fst) ∧
 ∃ (Z_1 : Bool × Int × Unit → Prop),
 ∃ (μ_1 : Bool × Int × Unit → Nat),
 Z_1 (false, (0 : Int), ()) ∧
 ∀ (a_4 : Bool) (a_5 : Int),
 Z_1 (a_4, a_5, ()) →
 (decide
 (a_5 <
 (↑(List.length
 (edgesL (allM (newM x.fst x.snd.fst).fst))) :
 Int)) =
 true →
 ((0 : Int) ≤ a_5 ∧
 a_5 <
 (↑(List.length
 (edgesL (allM (newM x.fst x.snd.fst).fst))) :
 Int)) ∧
 (a_4 = true →
 ((IntKind.wrap IntKind.i64 (a_5 + (1 : Int)) =
 IntKind.wrap IntKind.i64 (a_5 + (1 : Int)) ∧
 true = true ∧
 x.fst = x.fst ∧
 (newM x.fst x.snd.fst).fst =
 (newM x.fst x.snd.fst).fst ∧
 True ∧
 edgesL
 (allM
 (newM x.fst x.snd.fst).fst) =
 edgesL
 (allM
 (newM x.fst x.snd.fst).fst) ∧
 a = a ∧
 a_1 = a_1 ∧
 edgesL
 (allM
 (newM x.fst
 x.snd.fst).fst) =
 edgesL
 (allM
 (newM x.fst
 x.snd.fst).fst) ∧
 (↑(List.length
 (edgesL
 (allM
 (newM x.fst
 x.snd.fst).fst))) :
 Int) =
 (↑(List.length
 (edgesL
 (allM
 (newM x.fst
 x.snd.fst).fst))) :
 Int)) ∧
 (newW x.fst x.snd.fst).fst =
 (newW x.fst x.snd.fst).fst ∧
 (newW x.fst x.snd.fst).snd.fst =
 (newW x.fst x.snd.fst).snd.fst ∧
 (newW x.fst x.snd.fst).snd.snd.fst =
 (newW x.fst x.snd.fst).snd.snd.fst) ∧
 Z_1
 (true,
 IntKind.wrap IntKind.i64 (a_5 + (1 : Int)),
 ()) ∧
 μ_1
 (true,
 IntKind.wrap IntKind.i64
 (a_5 + (1 : Int)),
 ()) <
 μ_1 (a_4, a_5, ())) ∧
 (a_4 = false →
 ((IntKind.wrap IntKind.i64 (a_5 + (1 : Int)) =
 IntKind.wrap IntKind.i64 (a_5 + (1 : Int)) ∧
 (List.getD
 (edgesL
 (allM (newM x.fst x.snd.fst).fst))
 (Int.toNat a_5) (Ty.dflt t3) ==
 a_1) =
 (List.getD
 (edgesL
 (allM (newM x.fst x.snd.fst).fst))
 (Int.toNat a_5) (Ty.dflt t3) ==
 a_1) ∧
 x.fst = x.fst ∧
 (newM x.fst x.snd.fst).fst =
 (newM x.fst x.snd.fst).fst ∧
 True ∧
 edgesL
 (allM
 (newM x.fst x.snd.fst).fst) =
 edgesL
 (allM
 (newM x.fst x.snd.fst).fst) ∧
 a = a ∧
 a_1 = a_1 ∧
 edgesL
 (allM
 (newM x.fst
 x.snd.fst).fst) =
 edgesL
 (allM
 (newM x.fst
 x.snd.fst).fst) ∧
 (↑(List.length
 (edgesL
 (allM
 (newM x.fst
 x.snd.fst).fst))) :
 Int) =
 (↑(List.length
 (edgesL
 (allM
 (newM x.fst
 x.snd.fst).fst))) :
 Int)) ∧
 (newW x.fst x.snd.fst).fst =
 (newW x.fst x.snd.fst).fst ∧
 (newW x.fst x.snd.fst).snd.fst =
 (newW x.fst x.snd.fst).snd.fst ∧
 (newW x.fst x.snd.fst).snd.snd.fst =
 (newW x.fst x.snd.fst).snd.snd.fst) ∧
 Z_1
 (List.getD
 (edgesL
 (allM (newM x.fst x.snd.fst).fst))
 (Int.toNat a_5) (Ty.dflt t3) ==
 a_1,
 IntKind.wrap IntKind.i64 (a_5 + (1 : Int)),
 ()) ∧
 μ_1
 (List.getD
 (edgesL
 (allM (newM x.fst x.snd.fst).fst))
 (Int.toNat a_5) (Ty.dflt t3) ==
 a_1,
 IntKind.wrap IntKind.i64
 (a_5 + (1 : Int)),
 ()) <
 μ_1 (a_4, a_5, ()))) ∧
 (decide
 (a_5 <
 (↑(List.length
 (edgesL (allM (newM x.fst x.snd.fst).fst))) :
 Int)) =
 false →
 okSet (newM x.fst x.snd.fst).fst ∧
 ((!Ty.beq t4 a_4
 (atL (allM (newM x.fst x.snd.fst).fst) a_1 !=
 a)) =
 true →
 false = true) ∧
 ((!Ty.beq t4 a_4
 (atL (allM (newM x.fst x.snd.fst).fst) a_1 !=
 a)) =
 false →
 okSet (newM x.fst x.snd.fst).fst ∧
 ((IntKind.wrap IntKind.i64 (a_1 + (1 : Int)) =
 IntKind.wrap IntKind.i64
 (a_1 + (1 : Int)) ∧
 atL (allM (newM x.fst x.snd.fst).fst) a_1 =
 atL (allM (newM x.fst x.snd.fst).fst)
 a_1 ∧
 x.fst = x.fst ∧
 (newM x.fst x.snd.fst).fst =
 (newM x.fst x.snd.fst).fst ∧
 True ∧
 edgesL
 (allM
 (newM x.fst x.snd.fst).fst) =
 edgesL
 (allM
 (newM x.fst x.snd.fst).fst)) ∧
 (newW x.fst x.snd.fst).fst =
 (newW x.fst x.snd.fst).fst ∧
 (newW x.fst x.snd.fst).snd.fst =
 (newW x.fst x.snd.fst).snd.fst ∧
 (newW x.fst x.snd.fst).snd.snd.fst =
 (newW x.fst x.snd.fst).snd.snd.fst) ∧
 Z
 (atL (allM (newM x.fst x.snd.fst).fst) a_1,
 IntKind.wrap IntKind.i64
 (a_1 + (1 : Int)),
 ()) ∧
 μ
 (atL (allM (newM x.fst x.snd.fst).fst)
 a_1,
 IntKind.wrap IntKind.i64
 (a_1 + (1 : Int)),
 ()) <
 μ (a, a_1, ())))) ∧
 (decide (a_1 ≤ x.fst) = false →
 (List.length (newW x.fst x.snd.fst).snd.fst ≤ (10000 : Nat) ∧
 (0 : Int) ≤ (newW x.fst x.snd.fst).fst ∧
 (newW x.fst x.snd.fst).fst ≤ (300 : Int)) ∧
 (List.length (edgesL (allM (newM x.fst x.snd.fst).fst)) ≤ maxLen ∧
 List.length
 (refEdges (newW x.fst x.snd.fst).fst
 (newW x.fst x.snd.fst).snd.fst) ≤
 maxLen) ∧
 (decide
 (edgesL (allM (newM x.fst x.snd.fst).fst) =
 refEdges (newW x.fst x.snd.fst).fst
 (newW x.fst x.snd.fst).snd.fst) =
 true →
 True ∧ true = true) ∧
 (decide
 (edgesL (allM (newM x.fst x.snd.fst).fst) =
 refEdges (newW x.fst x.snd.fst).fst
 (newW x.fst x.snd.fst).snd.fst) =
 false →
 false = true))))))
theorem vcEq4 : fnVC E4 Try.f4 (bodyOf Try.f4) cMarksEdges = vc4 := by kernel_rfl
/- fn 5 -/
def hs5 : List (Nat × Nat × Hint) := [(0, 13, ⟨[.slot 12 t3, .slot 51 t3], [5, 10, 11, 49, 50], [5], []⟩)]
def nm5 : List Nat := [3000000025, 3000000026]
noncomputable def E5 : Env := env tab [(8, cThree), (9, cNew), (11, cRefs), (10, cRefNew), (12, cIs), (18, cPaint), (19, cRefPaint)] [] noGl hs5 nm5
def vc5 : Prop :=
 ∀
 (x :
 Int ×
 List (Int × Int × Int × Int × Unit) ×
 (List (Int × Int × Int × Int × Unit) × Int × Int × Int × Bool × Bool × Int × Unit) × Unit),
 List.length x.snd.fst ≤ maxLen ∧ List.length x.snd.snd.fst.fst ≤ maxLen →
 (decide ((↑(List.length x.snd.fst) : Int) > (60 : Int)) = true → True ∧ true = true) ∧
 (decide ((↑(List.length x.snd.fst) : Int) > (60 : Int)) = false →
 (decide ((↑(List.length x.snd.snd.fst.fst) : Int) > (200 : Int)) = true → True ∧ true = true) ∧
 (decide ((↑(List.length x.snd.snd.fst.fst) : Int) > (200 : Int)) = false →
 List.length x.snd.fst ≤ maxLen ∧
 List.length x.snd.fst ≤ (1000000000 : Nat) ∧
 List.length x.snd.fst ≤ maxLen ∧
 (List.length (allM (newM x.fst x.snd.fst).fst) ≤ (10000 : Nat) ∧
 List.length (newW x.fst x.snd.fst).snd.fst ≤ (10000 : Nat)) ∧
 ((!isM (newM x.fst x.snd.fst).fst (newM x.fst x.snd.fst).snd.fst (newW x.fst x.snd.fst)) = true →
 false = true) ∧
 ((!isM (newM x.fst x.snd.fst).fst (newM x.fst x.snd.fst).snd.fst (newW x.fst x.snd.fst)) = false →
 (Option.isNone (newM x.fst x.snd.fst).fst = true → True ∧ true = true) ∧
 (Option.isNone (newM x.fst x.snd.fst).fst = false →
 (okSet (newM x.fst x.snd.fst).fst ∧ List.length x.snd.snd.fst.fst ≤ (10000 : Nat)) ∧
 (List.length (newW x.fst x.snd.fst).snd.fst ≤ (10000 : Nat) ∧
 List.length x.snd.snd.fst.fst ≤ (10000 : Nat)) ∧
 (((0 : Int) = (0 : Int) ∧
 (0 : Int) = (0 : Int) ∧
 True ∧
 runsL
 (styles (atL (allM (newM x.fst x.snd.fst).fst)) (0 : Int)
 x.snd.snd.fst.fst) =
 runsL
 (styles (atL (allM (newM x.fst x.snd.fst).fst)) (0 : Int)
 x.snd.snd.fst.fst) ∧
 runsL
 (styles (atL (newW x.fst x.snd.fst).snd.fst) (0 : Int)
 x.snd.snd.fst.fst) =
 runsL
 (styles (atL (newW x.fst x.snd.fst).snd.fst) (0 : Int)
 x.snd.snd.fst.fst) ∧
 runsL
 (styles (atL (allM (newM x.fst x.snd.fst).fst)) (0 : Int)
 x.snd.snd.fst.fst) =
 runsL
 (styles (atL (allM (newM x.fst x.snd.fst).fst)) (0 : Int)
 x.snd.snd.fst.fst) ∧
 (↑(List.length
 (runsL
 (styles (atL (allM (newM x.fst x.snd.fst).fst)) (0 : Int)
 x.snd.snd.fst.fst))) :
 Int) =
 (↑(List.length
 (runsL
 (styles (atL (allM (newM x.fst x.snd.fst).fst)) (0 : Int)
 x.snd.snd.fst.fst))) :
 Int)) ∧
 x.snd.snd.fst.fst = x.snd.snd.fst.fst ∧
 x.snd.snd.fst.snd.fst = x.snd.snd.fst.snd.fst ∧
 x.snd.snd.fst.snd.snd.fst = x.snd.snd.fst.snd.snd.fst ∧
 x.snd.snd.fst.snd.snd.snd.fst = x.snd.snd.fst.snd.snd.snd.fst ∧
 x.snd.snd.fst.snd.snd.snd.snd.fst = x.snd.snd.fst.snd.snd.snd.snd.fst ∧
 x.snd.snd.fst.snd.snd.snd.snd.snd.fst =
 x.snd.snd.fst.snd.snd.snd.snd.snd.fst ∧
 x.snd.snd.fst.snd.snd.snd.snd.snd.snd.fst =
 x.snd.snd.fst.snd.snd.snd.snd.snd.snd.fst) ∧
 ∃ (Z : Int × Int × Unit → Prop),
 ∃ (μ : Int × Int × Unit → Nat),
 Z ((0 : Int), (0 : Int), ()) ∧
 ∀ (a a_1 : Int),
 Z (a, a_1, ()) →
 (decide
 (a_1 <
 (↑(List.length
 (runsL
 (styles (atL (allM (newM x.fst x.snd.fst).fst)) (0 : Int)
 x.snd.snd.fst.fst))) :
 Int)) =
 true →
 ((0 : Int) ≤ a_1 ∧
 a_1 <
 (↑(List.length
 (runsL
 (styles (atL (allM (newM x.fst x.snd.fst).fst)) (0 : Int)
 x.snd.snd.fst.fst))) :
 Int)) ∧
 (decide
 (a_1 ≥
 (↑(List.length
 (runsL
 (styles (atL (newW x.fst x.snd.fst).snd.fst)
 (0 : Int) x.snd.snd.fst.fst))) :
 Int)) =
 true →
 false = true) ∧
 (decide
 (a_1 ≥
 (↑(List.length
 (runsL
 (styles (atL (newW x.fst x.snd.fst).snd.fst)
 (0 : Int) x.snd.snd.fst.fst))) :
 Int)) =
 false →
 ((0 : Int) ≤ a_1 ∧
 a_1 <
 (↑(List.length
 (runsL
 (styles (atL (newW x.fst x.snd.fst).snd.fst)
 (0 : Int) x.snd.snd.fst.fst))) :
 Int)) ∧
 (((List.getD
 (runsL
 (styles (atL (allM (newM x.fst x.snd.fst).fst))
 (0 : Int) x.snd.snd.fst.fst))
 (Int.toNat a_1) (Ty.dflt t48)).fst !=
 (List.getD
 (runsL
 (styles (atL (newW x.fst x.snd.fst).snd.fst)
 (0 : Int) x.snd.snd.fst.fst))
 (Int.toNat a_1) (Ty.dflt t49)).fst) =
 true →
 false = true) ∧
 (((List.getD
 (runsL
 (styles (atL (allM (newM x.fst x.snd.fst).fst))
 (0 : Int) x.snd.snd.fst.fst))
 (Int.toNat a_1) (Ty.dflt t48)).fst !=
 (List.getD
 (runsL
 (styles (atL (newW x.fst x.snd.fst).snd.fst)
 (0 : Int) x.snd.snd.fst.fst))
 (Int.toNat a_1) (Ty.dflt t49)).fst) =
 false →
 ((0 : Int) ≤ a_1 ∧
 a_1 <
 (↑(List.length
 (runsL
 (styles (atL (newW x.fst x.snd.fst).snd.fst)
 (0 : Int) x.snd.snd.fst.fst))) :
 Int)) ∧
 (((List.getD
 (runsL
 (styles
 (atL (allM (newM x.fst x.snd.fst).fst))
 (0 : Int) x.snd.snd.fst.fst))
 (Int.toNat a_1) (Ty.dflt t48)).snd.fst !=
 (List.getD
 (runsL
 (styles
 (atL (newW x.fst x.snd.fst).snd.fst)
 (0 : Int) x.snd.snd.fst.fst))
 (Int.toNat a_1) (Ty.dflt t49)).snd.fst) =
 true →
 false = true) ∧
 (((List.getD
 (runsL
 (styles
 (atL (allM (newM x.fst x.snd.fst).fst))
 (0 : Int) x.snd.snd.fst.fst))
 (Int.toNat a_1) (Ty.dflt t48)).snd.fst !=
 (List.getD
 (runsL
 (styles
 (atL (newW x.fst x.snd.fst).snd.fst)
 (0 : Int) x.snd.snd.fst.fst))
 (Int.toNat a_1) (Ty.dflt t49)).snd.fst) =
 false →
 (decide (a_1 > (0 : Int)) = true →
 ((0 : Int) ≤
 IntKind.wrap IntKind.i64 (a_1 - (1 : Int)) ∧
 IntKind.wrap IntKind.i64 (a_1 - (1 : Int)) <
 (↑(List.length
 (runsL
 (styles
 (atL
 (allM
 (newM x.fst x.snd.fst).fst))
 (0 : Int) x.snd.snd.fst.fst))) :
 Int)) ∧
 (((List.getD
 (runsL
 (styles
 (atL
 (allM
 (newM x.fst x.snd.fst).fst))
 (0 : Int) x.snd.snd.fst.fst))
 (Int.toNat
 (IntKind.wrap IntKind.i64
 (a_1 - (1 : Int))))
 (Ty.dflt t48)).fst ==
 (List.getD
 (runsL
 (styles
 (atL
 (allM
 (newM x.fst x.snd.fst).fst))
 (0 : Int) x.snd.snd.fst.fst))
 (Int.toNat a_1)
 (Ty.dflt t48)).fst) =
 true →
 false = true) ∧
 (((List.getD
 (runsL
 (styles
 (atL
 (allM
 (newM x.fst x.snd.fst).fst))
 (0 : Int) x.snd.snd.fst.fst))
 (Int.toNat
 (IntKind.wrap IntKind.i64
 (a_1 - (1 : Int))))
 (Ty.dflt t48)).fst ==
 (List.getD
 (runsL
 (styles
 (atL
 (allM
 (newM x.fst x.snd.fst).fst))
 (0 : Int) x.snd.snd.fst.fst))
 (Int.toNat a_1)
 (Ty.dflt t48)).fst) =
 false →
 ((IntKind.wrap IntKind.i64
 (a_1 + (1 : Int)) =
 IntKind.wrap IntKind.i64
 (a_1 + (1 : Int)) ∧
 IntKind.wrap IntKind.i64
 (a +
 (List.getD
 (runsL
 (styles
 (atL
 (allM
 (newM x.fst
 x.snd.fst).fst))
 (0 : Int)
 x.snd.snd.fst.fst))
 (Int.toNat a_1)
 (Ty.dflt
 t48)).snd.fst) =
 IntKind.wrap IntKind.i64
 (a +
 (List.getD
 (runsL
 (styles
 (atL
 (allM
 (newM x.fst
 x.snd.fst).fst))
 (0 : Int)
 x.snd.snd.fst.fst))
 (Int.toNat a_1)
 (Ty.dflt
 t48)).snd.fst) ∧
 True ∧
 runsL
 (styles
 (atL
 (allM
 (newM x.fst
 x.snd.fst).fst))
 (0 : Int)
 x.snd.snd.fst.fst) =
 runsL
 (styles
 (atL
 (allM
 (newM x.fst
 x.snd.fst).fst))
 (0 : Int)
 x.snd.snd.fst.fst) ∧
 runsL
 (styles
 (atL
 (newW x.fst
 x.snd.fst).snd.fst)
 (0 : Int)
 x.snd.snd.fst.fst) =
 runsL
 (styles
 (atL
 (newW x.fst
 x.snd.fst).snd.fst)
 (0 : Int)
 x.snd.snd.fst.fst) ∧
 runsL
 (styles
 (atL
 (allM
 (newM x.fst
 x.snd.fst).fst))
 (0 : Int)
 x.snd.snd.fst.fst) =
 runsL
 (styles
 (atL
 (allM
 (newM x.fst
 x.snd.fst).fst))
 (0 : Int)
 x.snd.snd.fst.fst) ∧
 (↑(List.length
 (runsL
 (styles
 (atL
 (allM
 (newM x.fst
 x.snd.fst).fst))
 (0 : Int)
 x.snd.snd.fst.fst))) :
 Int) =
 (↑(List.length
 (runsL
 (styles
 (atL
 (allM
 (newM x.fst
 x.snd.fst).fst))
 (0 : Int)
 x.snd.snd.fst.fst))) :
 Int)) ∧
 x.snd.snd.fst.fst = x.snd.snd.fst.fst ∧
 x.snd.snd.fst.snd.fst =
 x.snd.snd.fst.snd.fst ∧
 x.snd.snd.fst.snd.snd.fst =
 x.snd.snd.fst.snd.snd.fst ∧
 x.snd.snd.fst.snd.snd.snd.fst =
 x.snd.snd.fst.snd.snd.snd.fst ∧
 x.snd.snd.fst.snd.snd.snd.snd.fst =
 x.snd.snd.fst.snd.snd.snd.snd.fst ∧
 x.snd.snd.fst.snd.snd.snd.snd.snd.fst =
 x.snd.snd.fst.snd.snd.snd.snd.snd.fst ∧
 x.snd.snd.fst.snd.snd.snd.snd.snd.snd.fst =
 x.snd.snd.fst.snd.snd.snd.snd.snd.snd.fst) ∧
 Z
 (IntKind.wrap IntKind.i64
 (a +
 (List.getD
 (runsL
 (styles
 (atL
 (allM
 (newM x.fst
 x.snd.fst).fst))
 (0 : Int)
 x.snd.snd.fst.fst))
 (Int.toNat a_1)
 (Ty.dflt t48)).snd.fst),
 IntKind.wrap IntKind.i64
 (a_1 + (1 : Int)),
 ()) ∧
 μ
 (IntKind.wrap IntKind.i64
 (a +
 (List.getD
 (runsL
 (styles
 (atL
 (allM
 (newM x.fst
 x.snd.fst).fst))
 (0 : Int)
 x.snd.snd.fst.fst))
 (Int.toNat a_1)
 (Ty.dflt t48)).snd.fst),
 IntKind.wrap IntKind.i64
 (a_1 + (1 : Int)),
 ()) <
 μ (a, a_1, ()))) ∧
 (decide (a_1 > (0 : Int)) = false →
 ((IntKind.wrap IntKind.i64 (a_1 + (1 : Int)) =
 IntKind.wrap IntKind.i64
 (a_1 + (1 : Int)) ∧
 IntKind.wrap IntKind.i64
 (a +
 (List.getD
 (runsL
 (styles
 (atL
 (allM
 (newM x.fst
 x.snd.fst).fst))
 (0 : Int)
 x.snd.snd.fst.fst))
 (Int.toNat a_1)
 (Ty.dflt t48)).snd.fst) =
 IntKind.wrap IntKind.i64
 (a +
 (List.getD
 (runsL
 (styles
 (atL
 (allM
 (newM x.fst
 x.snd.fst).fst))
 (0 : Int)
 x.snd.snd.fst.fst))
 (Int.toNat a_1)
 (Ty.dflt t48)).snd.fst) ∧
 True ∧
 runsL
 (styles
 (atL
 (allM
 (newM x.fst x.snd.fst).fst))
 (0 : Int) x.snd.snd.fst.fst) =
 runsL
 (styles
 (atL
 (allM
 (newM x.fst x.snd.fst).fst))
 (0 : Int) x.snd.snd.fst.fst) ∧
 runsL
 (styles
 (atL
 (newW x.fst
 x.snd.fst).snd.fst)
 (0 : Int) x.snd.snd.fst.fst) =
 runsL
 (styles
 (atL
 (newW x.fst
 x.snd.fst).snd.fst)
 (0 : Int) x.snd.snd.fst.fst) ∧
 runsL
 (styles
 (atL
 (allM
 (newM x.fst
 x.snd.fst).fst))
 (0 : Int)
 x.snd.snd.fst.fst) =
 runsL
 (styles
 (atL
 (allM
 (newM x.fst
 x.snd.fst).fst))
 (0 : Int)
 x.snd.snd.fst.fst) ∧
 (↑(List.length
 (runsL
 (styles
 (atL
 (allM
 (newM x.fst
 x.snd.fst).fst))
 (0 : Int)
 x.snd.snd.fst.fst))) :
 Int) =
 (↑(List.length
 (runsL
 (styles
 (atL
 (allM
 (newM x.fst
 x.snd.fst).fst))
 (0 : Int)
 x.snd.snd.fst.fst))) :
 Int)) ∧
 x.snd.snd.fst.fst = x.snd.snd.fst.fst ∧
 x.snd.snd.fst.snd.fst =
 x.snd.snd.fst.snd.fst ∧
 x.snd.snd.fst.snd.snd.fst =
 x.snd.snd.fst.snd.snd.fst ∧
 x.snd.snd.fst.snd.snd.snd.fst =
 x.snd.snd.fst.snd.snd.snd.fst ∧
 x.snd.snd.fst.snd.snd.snd.snd.fst =
 x.snd.snd.fst.snd.snd.snd.snd.fst ∧
 x.snd.snd.fst.snd.snd.snd.snd.snd.fst =
 x.snd.snd.fst.snd.snd.snd.snd.snd.fst ∧
 x.snd.snd.fst.snd.snd.snd.snd.snd.snd.fst =
 x.snd.snd.fst.snd.snd.snd.snd.snd.snd.fst) ∧
 Z
 (IntKind.wrap IntKind.i64
 (a +
 (List.getD
 (runsL
 (styles
 (atL
 (allM
 (newM x.fst
 x.snd.fst).fst))
 (0 : Int)
 x.snd.snd.fst.fst))
 (Int.toNat a_1)
 (Ty.dflt t48)).snd.fst),
 IntKind.wrap IntKind.i64
 (a_1 + (1 : Int)),
 ()) ∧
 μ
 (IntKind.wrap IntKind.i64
 (a +
 (List.getD
 (runsL
 (styles
 (atL
 (allM
 (newM x.fst
 x.snd.fst).fst))
 (0 : Int)
 x.snd.snd.fst.fst))
 (Int.toNat a_1)
 (Ty.dflt t48)).snd.fst),
 IntKind.wrap IntKind.i64
 (a_1 + (1 : Int)),
 ()) <
 μ (a, a_1, ())))))) ∧
 (decide
 (a_1 <
 (↑(List.length
 (runsL
 (styles (atL (allM (newM x.fst x.snd.fst).fst)) (0 : Int)
 x.snd.snd.fst.fst))) :
 Int)) =
 false →
 (((↑(List.length
 (runsL
 (styles (atL (allM (newM x.fst x.snd.fst).fst))
 (0 : Int) x.snd.snd.fst.fst))) :
 Int) ==
 (↑(List.length
 (runsL
 (styles (atL (newW x.fst x.snd.fst).snd.fst) (0 : Int)
 x.snd.snd.fst.fst))) :
 Int)) =
 true →
 ((a == (↑(List.length x.snd.snd.fst.fst) : Int)) = true →
 True ∧ true = true) ∧
 ((a == (↑(List.length x.snd.snd.fst.fst) : Int)) = false →
 false = true)) ∧
 (((↑(List.length
 (runsL
 (styles (atL (allM (newM x.fst x.snd.fst).fst))
 (0 : Int) x.snd.snd.fst.fst))) :
 Int) ==
 (↑(List.length
 (runsL
 (styles (atL (newW x.fst x.snd.fst).snd.fst) (0 : Int)
 x.snd.snd.fst.fst))) :
 Int)) =
 false →
 false = true))))))
theorem vcEq5 : fnVC E5 Try.f5 (bodyOf Try.f5) cMarksPaint = vc5 := by kernel_rfl
/- fn 6 -/
def hs6 : List (Nat × Nat × Hint) := []
def nm6 : List Nat := [3000000025, 3000000026]
noncomputable def E6 : Env := env tab [(8, cThree), (9, cNew), (11, cRefs), (10, cRefNew), (12, cIs), (20, cShift), (22, cChanges), (21, cRefShift)] [] noGl hs6 nm6
def vc6 : Prop :=
 ∀ (x : Int × List (Int × Int × Int × Int × Unit) × List Chg × Unit),
 List.length x.snd.fst ≤ maxLen ∧ List.length x.snd.snd.fst ≤ maxLen →
 (decide ((↑(List.length x.snd.fst) : Int) > (200 : Int)) = true → True ∧ true = true) ∧
 (decide ((↑(List.length x.snd.fst) : Int) > (200 : Int)) = false →
 (decide ((↑(List.length x.snd.snd.fst) : Int) > (100 : Int)) = true → True ∧ true = true) ∧
 (decide ((↑(List.length x.snd.snd.fst) : Int) > (100 : Int)) = false →
 List.length x.snd.fst ≤ maxLen ∧
 List.length x.snd.fst ≤ (1000000000 : Nat) ∧
 List.length x.snd.fst ≤ maxLen ∧
 (List.length (allM (newM x.fst x.snd.fst).fst) ≤ (10000 : Nat) ∧
 List.length (newW x.fst x.snd.fst).snd.fst ≤ (10000 : Nat)) ∧
 ((!isM (newM x.fst x.snd.fst).fst (newM x.fst x.snd.fst).snd.fst (newW x.fst x.snd.fst)) = true →
 false = true) ∧
 ((!isM (newM x.fst x.snd.fst).fst (newM x.fst x.snd.fst).snd.fst (newW x.fst x.snd.fst)) = false →
 (Option.isNone (newM x.fst x.snd.fst).fst = true → True ∧ true = true) ∧
 (Option.isNone (newM x.fst x.snd.fst).fst = false →
 (okSet (newM x.fst x.snd.fst).fst ∧
 sizeM (newM x.fst x.snd.fst).fst ≤ (1099511627776 : Int) ∧
 (0 : Int) ≤ sizeM (newM x.fst x.snd.fst).fst ∧
 List.length x.snd.snd.fst ≤ (1000 : Nat)) ∧
 List.length x.snd.snd.fst ≤ (1000000000 : Nat) ∧
 (List.length (newW x.fst x.snd.fst).snd.fst ≤ (200 : Nat) ∧
 (∀ (m : Ty.den t64),
 m ∈
 (((cRefNew.fn (x.fst, cRefs.fn (x.snd.fst, ()), ())).fst,
 (cRefNew.fn (x.fst, cRefs.fn (x.snd.fst, ()), ())).snd.fst,
 (cRefNew.fn (x.fst, cRefs.fn (x.snd.fst, ()), ())).snd.snd.fst,
 ()),
 cChanges.fn (x.snd.snd.fst, ()), ()).fst.snd.fst →
 okMark
 (((cRefNew.fn (x.fst, cRefs.fn (x.snd.fst, ()), ())).fst,
 (cRefNew.fn (x.fst, cRefs.fn (x.snd.fst, ()), ())).snd.fst,
 (cRefNew.fn (x.fst, cRefs.fn (x.snd.fst, ()), ())).snd.snd.fst,
 ()),
 cChanges.fn (x.snd.snd.fst, ()), ()).fst.fst
 m =
 true) ∧
 (0 : Int) ≤ (newW x.fst x.snd.fst).fst ∧
 (newW x.fst x.snd.fst).fst ≤ (1099511627776 : Int) ∧
 List.length x.snd.snd.fst ≤ (1000 : Nat)) ∧
 (List.length (allM (shiftM (newM x.fst x.snd.fst).fst x.snd.snd.fst).fst) ≤
 (10000 : Nat) ∧
 List.length (shiftW (newW x.fst x.snd.fst) x.snd.snd.fst).snd.fst ≤
 (10000 : Nat)) ∧
 (isM (shiftM (newM x.fst x.snd.fst).fst x.snd.snd.fst).fst
 (shiftM (newM x.fst x.snd.fst).fst x.snd.snd.fst).snd.fst
 (shiftW (newW x.fst x.snd.fst) x.snd.snd.fst) =
 true →
 (List.length (allM (newM x.fst x.snd.fst).fst) ≤ (10000 : Nat) ∧
 List.length (newW x.fst x.snd.fst).snd.fst ≤ (10000 : Nat)) ∧
 (isM (newM x.fst x.snd.fst).fst (0 : Int) (newW x.fst x.snd.fst) = true →
 True ∧ true = true) ∧
 (isM (newM x.fst x.snd.fst).fst (0 : Int) (newW x.fst x.snd.fst) = false →
 false = true)) ∧
 (isM (shiftM (newM x.fst x.snd.fst).fst x.snd.snd.fst).fst
 (shiftM (newM x.fst x.snd.fst).fst x.snd.snd.fst).snd.fst
 (shiftW (newW x.fst x.snd.fst) x.snd.snd.fst) =
 false →
 false = true)))))
theorem vcEq6 : fnVC E6 Try.f6 (bodyOf Try.f6) cMarksShift = vc6 := by kernel_rfl
/- fn 7 -/
def hs7 : List (Nat × Nat × Hint) := []
def nm7 : List Nat := [3000000025, 3000000026]
noncomputable def E7 : Env := env tab [(8, cThree), (20, cShift), (18, cPaint), (13, cAt), (23, cAll), (15, cEdges)] [] noGl hs7 nm7
def vc7 : Prop :=
 ∀ (x : Int × (List (Int × Int × Int × Int × Unit) × Int × Int × Int × Bool × Bool × Int × Unit) × Unit),
 List.length x.snd.fst.fst ≤ maxLen →
 (decide ((↑(List.length x.snd.fst.fst) : Int) > (200 : Int)) = true → True ∧ true = true) ∧
 (decide ((↑(List.length x.snd.fst.fst) : Int) > (200 : Int)) = false →
 (okSet none ∧ sizeM none ≤ (1099511627776 : Int) ∧ (0 : Int) ≤ sizeM none ∧ (0 : Nat) ≤ (1000 : Nat)) ∧
 (okSet none ∧ List.length x.snd.fst.fst ≤ (10000 : Nat)) ∧
 (((↑(List.length x.snd.fst.fst) : Int) == (0 : Int)) = true →
 (((↑(List.length (runsL (styles (atL (allM none)) (0 : Int) x.snd.fst.fst))) : Int) == (0 : Int)) =
 true →
 (((shiftM none []).snd.fst == (0 : Int)) = true →
 (Option.isSome (shiftM none []).fst = true →
 okSet none ∧
 ((atL (allM none) x.fst == (0 : Int)) = true →
 List.length (allM none) ≤ (10000 : Nat) ∧
 (((↑(List.length (allM none)) : Int) == (0 : Int)) = true →
 okSet none ∧
 (((↑(List.length (edgesL (allM none))) : Int) == (0 : Int)) = true →
 True ∧ true = true) ∧
 (((↑(List.length (edgesL (allM none))) : Int) == (0 : Int)) = false →
 false = true)) ∧
 (((↑(List.length (allM none)) : Int) == (0 : Int)) = false → false = true)) ∧
 ((atL (allM none) x.fst == (0 : Int)) = false → false = true)) ∧
 (Option.isSome (shiftM none []).fst = false → false = true)) ∧
 (((shiftM none []).snd.fst == (0 : Int)) = false → false = true)) ∧
 (((↑(List.length (runsL (styles (atL (allM none)) (0 : Int) x.snd.fst.fst))) : Int) == (0 : Int)) =
 false →
 (((↑(List.length (runsL (styles (atL (allM none)) (0 : Int) x.snd.fst.fst))) : Int) == (1 : Int)) =
 true →
 ((0 : Int) ≤ (0 : Int) ∧
 (0 : Int) <
 (↑(List.length (runsL (styles (atL (allM none)) (0 : Int) x.snd.fst.fst))) : Int)) ∧
 (((List.getD (runsL (styles (atL (allM none)) (0 : Int) x.snd.fst.fst)) (Int.toNat (0 : Int))
 (Ty.dflt t48)).fst ==
 (0 : Int)) =
 true →
 ((0 : Int) ≤ (0 : Int) ∧
 (0 : Int) <
 (↑(List.length (runsL (styles (atL (allM none)) (0 : Int) x.snd.fst.fst))) : Int)) ∧
 (((shiftM none []).snd.fst == (0 : Int)) = true →
 (Option.isSome (shiftM none []).fst = true →
 (((List.getD (runsL (styles (atL (allM none)) (0 : Int) x.snd.fst.fst))
 (Int.toNat (0 : Int)) (Ty.dflt t48)).snd.fst ==
 (↑(List.length x.snd.fst.fst) : Int)) =
 true →
 okSet none ∧
 ((atL (allM none) x.fst == (0 : Int)) = true →
 List.length (allM none) ≤ (10000 : Nat) ∧
 (((↑(List.length (allM none)) : Int) == (0 : Int)) = true →
 okSet none ∧
 (((↑(List.length (edgesL (allM none))) : Int) == (0 : Int)) =
 true →
 True ∧ true = true) ∧
 (((↑(List.length (edgesL (allM none))) : Int) ==
 (0 : Int)) =
 false →
 false = true)) ∧
 (((↑(List.length (allM none)) : Int) == (0 : Int)) = false →
 false = true)) ∧
 ((atL (allM none) x.fst == (0 : Int)) = false → false = true)) ∧
 (((List.getD (runsL (styles (atL (allM none)) (0 : Int) x.snd.fst.fst))
 (Int.toNat (0 : Int)) (Ty.dflt t48)).snd.fst ==
 (↑(List.length x.snd.fst.fst) : Int)) =
 false →
 false = true)) ∧
 (Option.isSome (shiftM none []).fst = false → false = true)) ∧
 (((shiftM none []).snd.fst == (0 : Int)) = false → false = true)) ∧
 (((List.getD (runsL (styles (atL (allM none)) (0 : Int) x.snd.fst.fst))
 (Int.toNat (0 : Int)) (Ty.dflt t48)).fst ==
 (0 : Int)) =
 false →
 (((shiftM none []).snd.fst == (0 : Int)) = true →
 (Option.isSome (shiftM none []).fst = true → false = true) ∧
 (Option.isSome (shiftM none []).fst = false → false = true)) ∧
 (((shiftM none []).snd.fst == (0 : Int)) = false → false = true))) ∧
 (((↑(List.length (runsL (styles (atL (allM none)) (0 : Int) x.snd.fst.fst))) : Int) ==
 (1 : Int)) =
 false →
 (((shiftM none []).snd.fst == (0 : Int)) = true →
 (Option.isSome (shiftM none []).fst = true → false = true) ∧
 (Option.isSome (shiftM none []).fst = false → false = true)) ∧
 (((shiftM none []).snd.fst == (0 : Int)) = false → false = true)))) ∧
 (((↑(List.length x.snd.fst.fst) : Int) == (0 : Int)) = false →
 (((↑(List.length (runsL (styles (atL (allM none)) (0 : Int) x.snd.fst.fst))) : Int) == (1 : Int)) =
 true →
 ((0 : Int) ≤ (0 : Int) ∧
 (0 : Int) < (↑(List.length (runsL (styles (atL (allM none)) (0 : Int) x.snd.fst.fst))) : Int)) ∧
 (((List.getD (runsL (styles (atL (allM none)) (0 : Int) x.snd.fst.fst)) (Int.toNat (0 : Int))
 (Ty.dflt t48)).fst ==
 (0 : Int)) =
 true →
 ((0 : Int) ≤ (0 : Int) ∧
 (0 : Int) <
 (↑(List.length (runsL (styles (atL (allM none)) (0 : Int) x.snd.fst.fst))) : Int)) ∧
 (((shiftM none []).snd.fst == (0 : Int)) = true →
 (Option.isSome (shiftM none []).fst = true →
 (((List.getD (runsL (styles (atL (allM none)) (0 : Int) x.snd.fst.fst))
 (Int.toNat (0 : Int)) (Ty.dflt t48)).snd.fst ==
 (↑(List.length x.snd.fst.fst) : Int)) =
 true →
 okSet none ∧
 ((atL (allM none) x.fst == (0 : Int)) = true →
 List.length (allM none) ≤ (10000 : Nat) ∧
 (((↑(List.length (allM none)) : Int) == (0 : Int)) = true →
 okSet none ∧
 (((↑(List.length (edgesL (allM none))) : Int) == (0 : Int)) =
 true →
 True ∧ true = true) ∧
 (((↑(List.length (edgesL (allM none))) : Int) == (0 : Int)) =
 false →
 false = true)) ∧
 (((↑(List.length (allM none)) : Int) == (0 : Int)) = false →
 false = true)) ∧
 ((atL (allM none) x.fst == (0 : Int)) = false → false = true)) ∧
 (((List.getD (runsL (styles (atL (allM none)) (0 : Int) x.snd.fst.fst))
 (Int.toNat (0 : Int)) (Ty.dflt t48)).snd.fst ==
 (↑(List.length x.snd.fst.fst) : Int)) =
 false →
 false = true)) ∧
 (Option.isSome (shiftM none []).fst = false → false = true)) ∧
 (((shiftM none []).snd.fst == (0 : Int)) = false → false = true)) ∧
 (((List.getD (runsL (styles (atL (allM none)) (0 : Int) x.snd.fst.fst)) (Int.toNat (0 : Int))
 (Ty.dflt t48)).fst ==
 (0 : Int)) =
 false →
 (((shiftM none []).snd.fst == (0 : Int)) = true →
 (Option.isSome (shiftM none []).fst = true → false = true) ∧
 (Option.isSome (shiftM none []).fst = false → false = true)) ∧
 (((shiftM none []).snd.fst == (0 : Int)) = false → false = true))) ∧
 (((↑(List.length (runsL (styles (atL (allM none)) (0 : Int) x.snd.fst.fst))) : Int) == (1 : Int)) =
 false →
 (((shiftM none []).snd.fst == (0 : Int)) = true →
 (Option.isSome (shiftM none []).fst = true → false = true) ∧
 (Option.isSome (shiftM none []).fst = false → false = true)) ∧
 (((shiftM none []).snd.fst == (0 : Int)) = false → false = true))))
theorem vcEq7 : fnVC E7 Try.f7 (bodyOf Try.f7) cMarksNil = vc7 := by kernel_rfl
/- fn 8 -/
def hs8 : List (Nat × Nat × Hint) := []
def nm8 : List Nat := [3000000025, 3000000026]
noncomputable def E8 : Env := env tab [(9, cNew), (15, cEdges), (16, cInts), (13, cAt)] [] noGl hs8 nm8
def vc8 : Prop :=
 ∀ (x : Unit),
 True →
 List.length [((0 : Int), (4 : Int), (1 : Int), (0 : Int), ()), ((2 : Int), (6 : Int), (2 : Int), (1 : Int), ())] ≤
 maxLen ∧
 (((newM (9 : Int)
 [((0 : Int), (4 : Int), (1 : Int), (0 : Int), ()),
 ((2 : Int), (6 : Int), (2 : Int), (1 : Int), ())]).snd.fst ==
 (0 : Int)) =
 true →
 okSet
 (newM (9 : Int)
 [((0 : Int), (4 : Int), (1 : Int), (0 : Int), ()),
 ((2 : Int), (6 : Int), (2 : Int), (1 : Int), ())]).fst ∧
 (List.length
 (edgesL
 (allM
 (newM (9 : Int)
 [((0 : Int), (4 : Int), (1 : Int), (0 : Int), ()),
 ((2 : Int), (6 : Int), (2 : Int), (1 : Int), ())]).fst)) ≤
 maxLen ∧
 List.length [(0 : Int), (2 : Int), (6 : Int)] ≤ maxLen) ∧
 (decide
 (edgesL
 (allM
 (newM (9 : Int)
 [((0 : Int), (4 : Int), (1 : Int), (0 : Int), ()),
 ((2 : Int), (6 : Int), (2 : Int), (1 : Int), ())]).fst) =
 [(0 : Int), (2 : Int), (6 : Int)]) =
 true →
 okSet
 (newM (9 : Int)
 [((0 : Int), (4 : Int), (1 : Int), (0 : Int), ()),
 ((2 : Int), (6 : Int), (2 : Int), (1 : Int), ())]).fst ∧
 ((atL
 (allM
 (newM (9 : Int)
 [((0 : Int), (4 : Int), (1 : Int), (0 : Int), ()),
 ((2 : Int), (6 : Int), (2 : Int), (1 : Int), ())]).fst)
 (3 : Int) ==
 (2 : Int)) =
 true →
 okSet
 (newM (9 : Int)
 [((0 : Int), (4 : Int), (1 : Int), (0 : Int), ()),
 ((2 : Int), (6 : Int), (2 : Int), (1 : Int), ())]).fst ∧
 (atL
 (allM
 (newM (9 : Int)
 [((0 : Int), (4 : Int), (1 : Int), (0 : Int), ()),
 ((2 : Int), (6 : Int), (2 : Int), (1 : Int), ())]).fst)
 (6 : Int) ==
 (0 : Int)) =
 true) ∧
 ((atL
 (allM
 (newM (9 : Int)
 [((0 : Int), (4 : Int), (1 : Int), (0 : Int), ()),
 ((2 : Int), (6 : Int), (2 : Int), (1 : Int), ())]).fst)
 (3 : Int) ==
 (2 : Int)) =
 false →
 false = true)) ∧
 (decide
 (edgesL
 (allM
 (newM (9 : Int)
 [((0 : Int), (4 : Int), (1 : Int), (0 : Int), ()),
 ((2 : Int), (6 : Int), (2 : Int), (1 : Int), ())]).fst) =
 [(0 : Int), (2 : Int), (6 : Int)]) =
 false →
 false = true)) ∧
 (((newM (9 : Int)
 [((0 : Int), (4 : Int), (1 : Int), (0 : Int), ()),
 ((2 : Int), (6 : Int), (2 : Int), (1 : Int), ())]).snd.fst ==
 (0 : Int)) =
 false →
 false = true)
theorem vcEq8 : fnVC E8 Try.f8 (bodyOf Try.f8) cThree = vc8 := by kernel_rfl
/- fn 9 -/
def hs9 : List (Nat × Nat × Hint) := [(0, 6, ⟨[.slot 21 t3], [0, 1, 19, 20], [], []⟩)]
def nm9 : List Nat := [3000000025, 3000000026]
noncomputable def E9 : Env := env tab [(24, cClone)] [] noGl hs9 nm9
def vc9 : Prop :=
 ∀ (x : Int × List (Int × Int × Int × Int × Unit) × Unit),
 List.length x.snd.fst ≤ maxLen →
 (decide (x.fst < (0 : Int)) = true → (none, (1 : Int), ()) = newM x.fst x.snd.fst) ∧
 (decide (x.fst < (0 : Int)) = false →
 (decide (x.fst > (1099511627776 : Int)) = true → (none, (1 : Int), ()) = newM x.fst x.snd.fst) ∧
 (decide (x.fst > (1099511627776 : Int)) = false →
 (decide ((↑(List.length x.snd.fst) : Int) > (200 : Int)) = true →
 (none, (5 : Int), ()) = newM x.fst x.snd.fst) ∧
 (decide ((↑(List.length x.snd.fst) : Int) > (200 : Int)) = false →
 ((0 : Int) = (0 : Int) ∧
 x.fst = x.fst ∧
 x.snd.fst = x.snd.fst ∧
 x.snd.fst = x.snd.fst ∧ (↑(List.length x.snd.fst) : Int) = (↑(List.length x.snd.fst) : Int)) ∧
 ∃ (Z : Int × Unit → Prop),
 ∃ (μ : Int × Unit → Nat),
 Z ((0 : Int), ()) ∧
 ∀ (a : Int),
 Z (a, ()) →
 (decide (a < (↑(List.length x.snd.fst) : Int)) = true →
 ((0 : Int) ≤ a ∧ a < (↑(List.length x.snd.fst) : Int)) ∧
 (decide ((List.getD x.snd.fst (Int.toNat a) (Ty.dflt t60)).fst < (0 : Int)) = true →
 (none, (1 : Int), ()) = newM x.fst x.snd.fst) ∧
 (decide ((List.getD x.snd.fst (Int.toNat a) (Ty.dflt t60)).fst < (0 : Int)) =
 false →
 (decide
 ((List.getD x.snd.fst (Int.toNat a) (Ty.dflt t60)).snd.fst ≤
 (List.getD x.snd.fst (Int.toNat a) (Ty.dflt t60)).fst) =
 true →
 (none, (1 : Int), ()) = newM x.fst x.snd.fst) ∧
 (decide
 ((List.getD x.snd.fst (Int.toNat a) (Ty.dflt t60)).snd.fst ≤
 (List.getD x.snd.fst (Int.toNat a) (Ty.dflt t60)).fst) =
 false →
 (decide ((List.getD x.snd.fst (Int.toNat a) (Ty.dflt t60)).snd.fst > x.fst) =
 true →
 (none, (1 : Int), ()) = newM x.fst x.snd.fst) ∧
 (decide
 ((List.getD x.snd.fst (Int.toNat a) (Ty.dflt t60)).snd.fst > x.fst) =
 false →
 (decide
 ((List.getD x.snd.fst (Int.toNat a) (Ty.dflt t60)).snd.snd.fst <
 (1 : Int)) =
 true →
 (none, (1 : Int), ()) = newM x.fst x.snd.fst) ∧
 (decide
 ((List.getD x.snd.fst (Int.toNat a) (Ty.dflt t60)).snd.snd.fst <
 (1 : Int)) =
 false →
 (IntKind.wrap IntKind.i64 (a + (1 : Int)) =
 IntKind.wrap IntKind.i64 (a + (1 : Int)) ∧
 x.fst = x.fst ∧
 x.snd.fst = x.snd.fst ∧
 x.snd.fst = x.snd.fst ∧
 (↑(List.length x.snd.fst) : Int) =
 (↑(List.length x.snd.fst) : Int)) ∧
 Z (IntKind.wrap IntKind.i64 (a + (1 : Int)), ()) ∧
 μ (IntKind.wrap IntKind.i64 (a + (1 : Int)), ()) <
 μ (a, ())))))) ∧
 (decide (a < (↑(List.length x.snd.fst) : Int)) = false →
 List.length x.snd.fst ≤ (10000 : Nat) ∧
 (some x, (0 : Int), ()) = newM x.fst x.snd.fst))))
theorem vcEq9 : fnVC E9 Try.f9 (bodyOf Try.f9) cNew = vc9 := by kernel_rfl
/- fn 10 -/
def hs10 : List (Nat × Nat × Hint) := [(0, 6, ⟨[.slot 20 t3, .cell 4 0 t3, .cell 4 1 t28, .cell 4 2 t3], [0, 1, 4, 18, 19], [4], []⟩)]
def nm10 : List Nat := [3000000025, 3000000026]
noncomputable def E10 : Env := env tab [] [] noGl hs10 nm10
def vc10 : Prop :=
 ∀ (x : Int × List (Int × Int × Int × Int × Unit) × Unit),
 List.length x.snd.fst ≤ maxLen →
 (decide (x.fst < (0 : Int)) = true → ((0 : Int), [], (1 : Int), ()) = newW x.fst x.snd.fst) ∧
 (decide (x.fst < (0 : Int)) = false →
 (decide (x.fst > (1099511627776 : Int)) = true → ((0 : Int), [], (1 : Int), ()) = newW x.fst x.snd.fst) ∧
 (decide (x.fst > (1099511627776 : Int)) = false →
 (decide ((↑(List.length x.snd.fst) : Int) > (200 : Int)) = true →
 ((0 : Int), [], (5 : Int), ()) = newW x.fst x.snd.fst) ∧
 (decide ((↑(List.length x.snd.fst) : Int) > (200 : Int)) = false →
 (((0 : Int) = (0 : Int) ∧
 x.fst = x.fst ∧
 x.snd.fst = x.snd.fst ∧
 True ∧
 x.snd.fst = x.snd.fst ∧
 (↑(List.length x.snd.fst) : Int) = (↑(List.length x.snd.fst) : Int)) ∧
 (0 : Int) = (0 : Int) ∧ ([] : List Mark) = [] ∧ (0 : Int) = (0 : Int)) ∧
 ∃ (Z : Int × Int × List (Int × Int × Int × Int × Unit) × Int × Unit → Prop),
 ∃ (μ : Int × Int × List (Int × Int × Int × Int × Unit) × Int × Unit → Nat),
 Z ((0 : Int), (0 : Int), [], (0 : Int), ()) ∧
 ∀ (a a_1 : Int) (a_2 : List (Int × Int × Int × Int × Unit)) (a_3 : Int),
 Z (a, a_1, a_2, a_3, ()) →
 (decide (a < (↑(List.length x.snd.fst) : Int)) = true →
 ((0 : Int) ≤ a ∧ a < (↑(List.length x.snd.fst) : Int)) ∧
 (decide ((List.getD x.snd.fst (Int.toNat a) (Ty.dflt t64)).fst < (0 : Int)) = true →
 ((0 : Int), [], (1 : Int), ()) = newW x.fst x.snd.fst) ∧
 (decide ((List.getD x.snd.fst (Int.toNat a) (Ty.dflt t64)).fst < (0 : Int)) =
 false →
 (decide
 ((List.getD x.snd.fst (Int.toNat a) (Ty.dflt t64)).fst ≥
 (List.getD x.snd.fst (Int.toNat a) (Ty.dflt t64)).snd.fst) =
 true →
 ((0 : Int), [], (1 : Int), ()) = newW x.fst x.snd.fst) ∧
 (decide
 ((List.getD x.snd.fst (Int.toNat a) (Ty.dflt t64)).fst ≥
 (List.getD x.snd.fst (Int.toNat a) (Ty.dflt t64)).snd.fst) =
 false →
 (decide ((List.getD x.snd.fst (Int.toNat a) (Ty.dflt t64)).snd.fst > x.fst) =
 true →
 ((0 : Int), [], (1 : Int), ()) = newW x.fst x.snd.fst) ∧
 (decide
 ((List.getD x.snd.fst (Int.toNat a) (Ty.dflt t64)).snd.fst > x.fst) =
 false →
 (decide
 ((List.getD x.snd.fst (Int.toNat a) (Ty.dflt t64)).snd.snd.fst <
 (1 : Int)) =
 true →
 ((0 : Int), [], (1 : Int), ()) = newW x.fst x.snd.fst) ∧
 (decide
 ((List.getD x.snd.fst (Int.toNat a) (Ty.dflt t64)).snd.snd.fst <
 (1 : Int)) =
 false →
 ((IntKind.wrap IntKind.i64 (a + (1 : Int)) =
 IntKind.wrap IntKind.i64 (a + (1 : Int)) ∧
 x.fst = x.fst ∧
 x.snd.fst = x.snd.fst ∧
 True ∧
 x.snd.fst = x.snd.fst ∧
 (↑(List.length x.snd.fst) : Int) =
 (↑(List.length x.snd.fst) : Int)) ∧
 a_1 = a_1 ∧ a_2 = a_2 ∧ a_3 = a_3) ∧
 Z (IntKind.wrap IntKind.i64 (a + (1 : Int)), a_1, a_2, a_3, ()) ∧
 μ (IntKind.wrap IntKind.i64 (a + (1 : Int)), a_1, a_2, a_3, ()) <
 μ (a, a_1, a_2, a_3, ())))))) ∧
 (decide (a < (↑(List.length x.snd.fst) : Int)) = false →
 (x.fst, x.snd.fst, (0 : Int), ()) = newW x.fst x.snd.fst))))
theorem vcEq10 : fnVC E10 Try.f10 (bodyOf Try.f10) cRefNew = vc10 := by kernel_rfl
/- fn 11 -/
def hs11 : List (Nat × Nat × Hint) := [(0, 3, ⟨[.rowS 3 900000003 t64 64, .slot 8 t3], [6, 7], [], []⟩)]
def nm11 : List Nat := [3000000025, 3000000026]
noncomputable def E11 : Env := env tab [] [] noGl hs11 nm11
def vc11 : Prop :=
 ∀ (x : List (Int × Int × Int × Int × Unit) × Unit),
 List.length x.fst ≤ (1000000000 : Nat) →
 (((0 : Int) = (0 : Int) ∧ True ∧ x.fst = x.fst ∧ (↑(List.length x.fst) : Int) = (↑(List.length x.fst) : Int)) ∧
 True ∧ True) ∧
 ∃ (Z : List (Int × Int × Int × Int × Unit) × Int × Unit → Prop),
 ∃ (μ : List (Int × Int × Int × Int × Unit) × Int × Unit → Nat),
 Z ([], (0 : Int), ()) ∧
 ∀ (a : List (Int × Int × Int × Int × Unit)) (a_1 : Int),
 Z (a, a_1, ()) →
 (decide (a_1 < (↑(List.length x.fst) : Int)) = true →
 ((0 : Int) ≤ a_1 ∧ a_1 < (↑(List.length x.fst) : Int)) ∧
 (List.length a + List.length [List.getD x.fst (Int.toNat a_1) (Ty.dflt t60)]) * (32 : Nat) ≤
 (140737488355328 : Nat) ∧
 List.length a + List.length [List.getD x.fst (Int.toNat a_1) (Ty.dflt t60)] ≤ maxLen ∧
 ((IntKind.wrap IntKind.i64 (a_1 + (1 : Int)) = IntKind.wrap IntKind.i64 (a_1 + (1 : Int)) ∧
 True ∧ x.fst = x.fst ∧ (↑(List.length x.fst) : Int) = (↑(List.length x.fst) : Int)) ∧
 a ++ [List.getD x.fst (Int.toNat a_1) (Ty.dflt t60)] =
 a ++ [List.getD x.fst (Int.toNat a_1) (Ty.dflt t60)] ∧
 True) ∧
 Z
 (a ++ [List.getD x.fst (Int.toNat a_1) (Ty.dflt t60)],
 IntKind.wrap IntKind.i64 (a_1 + (1 : Int)), ()) ∧
 μ
 (a ++ [List.getD x.fst (Int.toNat a_1) (Ty.dflt t60)],
 IntKind.wrap IntKind.i64 (a_1 + (1 : Int)), ()) <
 μ (a, a_1, ())) ∧
 (decide (a_1 < (↑(List.length x.fst) : Int)) = false → a = x.fst)
theorem vcEq11 : fnVC E11 Try.f11 (bodyOf Try.f11) cRefs = vc11 := by kernel_rfl
/- fn 12 -/
def hs12 : List (Nat × Nat × Hint) := [(0, 7, ⟨[.slot 29 t3], [5, 7, 27, 28], [5], []⟩)]
def nm12 : List Nat := [3000000025, 3000000026]
noncomputable def E12 : Env := env tab [(23, cAll), (11, cRefs)] [] noGl hs12 nm12
def vc12 : Prop :=
 ∀
 (x :
 Option (Int × List (Int × Int × Int × Int × Unit) × Unit) ×
 Int × (Int × List (Int × Int × Int × Int × Unit) × Int × Unit) × Unit),
 List.length (allM x.fst) ≤ (10000 : Nat) ∧ List.length x.snd.snd.fst.snd.fst ≤ (10000 : Nat) →
 ((x.snd.fst != x.snd.snd.fst.snd.snd.fst) = true → false = isM x.fst x.snd.fst x.snd.snd.fst) ∧
 ((x.snd.fst != x.snd.snd.fst.snd.snd.fst) = false →
 ((!Ty.beq t4 (Option.isNone x.fst) (x.snd.snd.fst.snd.snd.fst != (0 : Int))) = true →
 false = isM x.fst x.snd.fst x.snd.snd.fst) ∧
 ((!Ty.beq t4 (Option.isNone x.fst) (x.snd.snd.fst.snd.snd.fst != (0 : Int))) = false →
 (Option.isNone x.fst = true → true = isM x.fst x.snd.fst x.snd.snd.fst) ∧
 (Option.isNone x.fst = false →
 List.length (allM x.fst) ≤ (10000 : Nat) ∧
 List.length (allM x.fst) ≤ (1000000000 : Nat) ∧
 (((0 : Int) = (0 : Int) ∧
 True ∧
 allM x.fst = allM x.fst ∧
 allM x.fst = allM x.fst ∧
 (↑(List.length (allM x.fst)) : Int) = (↑(List.length (allM x.fst)) : Int)) ∧
 x.snd.snd.fst.fst = x.snd.snd.fst.fst ∧
 x.snd.snd.fst.snd.fst = x.snd.snd.fst.snd.fst ∧
 x.snd.snd.fst.snd.snd.fst = x.snd.snd.fst.snd.snd.fst) ∧
 ∃ (Z : Int × Unit → Prop),
 ∃ (μ : Int × Unit → Nat),
 Z ((0 : Int), ()) ∧
 ∀ (a : Int),
 Z (a, ()) →
 (decide (a < (↑(List.length (allM x.fst)) : Int)) = true →
 ((0 : Int) ≤ a ∧ a < (↑(List.length (allM x.fst)) : Int)) ∧
 (decide (a ≥ (↑(List.length x.snd.snd.fst.snd.fst) : Int)) = true →
 false = isM x.fst x.snd.fst x.snd.snd.fst) ∧
 (decide (a ≥ (↑(List.length x.snd.snd.fst.snd.fst) : Int)) = false →
 ((0 : Int) ≤ a ∧ a < (↑(List.length x.snd.snd.fst.snd.fst) : Int)) ∧
 ((!Ty.beq t64 (List.getD (allM x.fst) (Int.toNat a) (Ty.dflt t64))
 (List.getD x.snd.snd.fst.snd.fst (Int.toNat a) (Ty.dflt t64))) =
 true →
 false = isM x.fst x.snd.fst x.snd.snd.fst) ∧
 ((!Ty.beq t64 (List.getD (allM x.fst) (Int.toNat a) (Ty.dflt t64))
 (List.getD x.snd.snd.fst.snd.fst (Int.toNat a) (Ty.dflt t64))) =
 false →
 ((IntKind.wrap IntKind.i64 (a + (1 : Int)) =
 IntKind.wrap IntKind.i64 (a + (1 : Int)) ∧
 True ∧
 allM x.fst = allM x.fst ∧
 allM x.fst = allM x.fst ∧
 (↑(List.length (allM x.fst)) : Int) =
 (↑(List.length (allM x.fst)) : Int)) ∧
 x.snd.snd.fst.fst = x.snd.snd.fst.fst ∧
 x.snd.snd.fst.snd.fst = x.snd.snd.fst.snd.fst ∧
 x.snd.snd.fst.snd.snd.fst = x.snd.snd.fst.snd.snd.fst) ∧
 Z (IntKind.wrap IntKind.i64 (a + (1 : Int)), ()) ∧
 μ (IntKind.wrap IntKind.i64 (a + (1 : Int)), ()) < μ (a, ())))) ∧
 (decide (a < (↑(List.length (allM x.fst)) : Int)) = false →
 ((↑(List.length (allM x.fst)) : Int) ==
 (↑(List.length x.snd.snd.fst.snd.fst) : Int)) =
 isM x.fst x.snd.fst x.snd.snd.fst))))
theorem vcEq12 : fnVC E12 Try.f12 (bodyOf Try.f12) cIs = vc12 := by kernel_rfl
/- fn 13 -/
def hs13 : List (Nat × Nat × Hint) := [(0, 4, ⟨[.slot 6 t4, .slot 12 t3, .cell 5 0 t3, .cell 5 1 t3, .cell 5 2 t3, .cell 5 3 t3], [1, 5, 10, 11], [5], []⟩)]
def nm13 : List Nat := [3000000025, 3000000026]
noncomputable def E13 : Env := env tab [(23, cAll)] [] noGl hs13 nm13
def vc13 : Prop :=
 ∀ (x : Option (Int × List (Int × Int × Int × Int × Unit) × Unit) × Int × Unit),
 okSet x.fst →
 List.length (allM x.fst) ≤ (10000 : Nat) ∧
 (((0 : Int) = (0 : Int) ∧
 false = false ∧
 x.snd.fst = x.snd.fst ∧
 True ∧
 allM x.fst = allM x.fst ∧ (↑(List.length (allM x.fst)) : Int) = (↑(List.length (allM x.fst)) : Int)) ∧
 (0 : Int) = (0 : Int) ∧ (0 : Int) = (0 : Int) ∧ (0 : Int) = (0 : Int) ∧ (0 : Int) = (0 : Int)) ∧
 ∃ (Z : Bool × Int × Int × Int × Int × Int × Unit → Prop),
 ∃ (μ : Bool × Int × Int × Int × Int × Int × Unit → Nat),
 Z (false, (0 : Int), (0 : Int), (0 : Int), (0 : Int), (0 : Int), ()) ∧
 ∀ (a : Bool) (a_1 a_2 a_3 a_4 a_5 : Int),
 Z (a, a_1, a_2, a_3, a_4, a_5, ()) →
 (decide (a_1 < (↑(List.length (allM x.fst)) : Int)) = true →
 ((0 : Int) ≤ a_1 ∧ a_1 < (↑(List.length (allM x.fst)) : Int)) ∧
 (decide ((List.getD (allM x.fst) (Int.toNat a_1) (Ty.dflt t60)).fst ≤ x.snd.fst) = true →
 (decide (x.snd.fst < (List.getD (allM x.fst) (Int.toNat a_1) (Ty.dflt t60)).snd.fst) =
 true →
 ((!a) = true →
 ((IntKind.wrap IntKind.i64 (a_1 + (1 : Int)) =
 IntKind.wrap IntKind.i64 (a_1 + (1 : Int)) ∧
 true = true ∧
 x.snd.fst = x.snd.fst ∧
 True ∧
 allM x.fst = allM x.fst ∧
 (↑(List.length (allM x.fst)) : Int) =
 (↑(List.length (allM x.fst)) : Int)) ∧
 (List.getD (allM x.fst) (Int.toNat a_1) (Ty.dflt t60)).fst =
 (List.getD (allM x.fst) (Int.toNat a_1) (Ty.dflt t60)).fst ∧
 (List.getD (allM x.fst) (Int.toNat a_1) (Ty.dflt t60)).snd.fst =
 (List.getD (allM x.fst) (Int.toNat a_1) (Ty.dflt t60)).snd.fst ∧
 (List.getD (allM x.fst) (Int.toNat a_1) (Ty.dflt t60)).snd.snd.fst =
 (List.getD (allM x.fst) (Int.toNat a_1) (Ty.dflt t60)).snd.snd.fst ∧
 (List.getD (allM x.fst) (Int.toNat a_1) (Ty.dflt t60)).snd.snd.snd.fst =
 (List.getD (allM x.fst) (Int.toNat a_1)
 (Ty.dflt t60)).snd.snd.snd.fst) ∧
 Z
 (true, IntKind.wrap IntKind.i64 (a_1 + (1 : Int)),
 List.getD (allM x.fst) (Int.toNat a_1) (Ty.dflt t60)) ∧
 μ
 (true, IntKind.wrap IntKind.i64 (a_1 + (1 : Int)),
 List.getD (allM x.fst) (Int.toNat a_1) (Ty.dflt t60)) <
 μ (a, a_1, a_2, a_3, a_4, a_5, ())) ∧
 ((!a) = false →
 (decide
 ((List.getD (allM x.fst) (Int.toNat a_1) (Ty.dflt t60)).snd.snd.snd.fst ≥
 a_5) =
 true →
 ((IntKind.wrap IntKind.i64 (a_1 + (1 : Int)) =
 IntKind.wrap IntKind.i64 (a_1 + (1 : Int)) ∧
 true = true ∧
 x.snd.fst = x.snd.fst ∧
 True ∧
 allM x.fst = allM x.fst ∧
 (↑(List.length (allM x.fst)) : Int) =
 (↑(List.length (allM x.fst)) : Int)) ∧
 (List.getD (allM x.fst) (Int.toNat a_1) (Ty.dflt t60)).fst =
 (List.getD (allM x.fst) (Int.toNat a_1) (Ty.dflt t60)).fst ∧
 (List.getD (allM x.fst) (Int.toNat a_1) (Ty.dflt t60)).snd.fst =
 (List.getD (allM x.fst) (Int.toNat a_1) (Ty.dflt t60)).snd.fst ∧
 (List.getD (allM x.fst) (Int.toNat a_1) (Ty.dflt t60)).snd.snd.fst =
 (List.getD (allM x.fst) (Int.toNat a_1) (Ty.dflt t60)).snd.snd.fst ∧
 (List.getD (allM x.fst) (Int.toNat a_1)
 (Ty.dflt t60)).snd.snd.snd.fst =
 (List.getD (allM x.fst) (Int.toNat a_1)
 (Ty.dflt t60)).snd.snd.snd.fst) ∧
 Z
 (true, IntKind.wrap IntKind.i64 (a_1 + (1 : Int)),
 List.getD (allM x.fst) (Int.toNat a_1) (Ty.dflt t60)) ∧
 μ
 (true, IntKind.wrap IntKind.i64 (a_1 + (1 : Int)),
 List.getD (allM x.fst) (Int.toNat a_1) (Ty.dflt t60)) <
 μ (a, a_1, a_2, a_3, a_4, a_5, ())) ∧
 (decide
 ((List.getD (allM x.fst) (Int.toNat a_1) (Ty.dflt t60)).snd.snd.snd.fst ≥
 a_5) =
 false →
 ((IntKind.wrap IntKind.i64 (a_1 + (1 : Int)) =
 IntKind.wrap IntKind.i64 (a_1 + (1 : Int)) ∧
 a = a ∧
 x.snd.fst = x.snd.fst ∧
 True ∧
 allM x.fst = allM x.fst ∧
 (↑(List.length (allM x.fst)) : Int) =
 (↑(List.length (allM x.fst)) : Int)) ∧
 a_2 = a_2 ∧ a_3 = a_3 ∧ a_4 = a_4 ∧ a_5 = a_5) ∧
 Z (a, IntKind.wrap IntKind.i64 (a_1 + (1 : Int)), a_2, a_3, a_4, a_5, ()) ∧
 μ (a, IntKind.wrap IntKind.i64 (a_1 + (1 : Int)), a_2, a_3, a_4, a_5, ()) <
 μ (a, a_1, a_2, a_3, a_4, a_5, ())))) ∧
 (decide (x.snd.fst < (List.getD (allM x.fst) (Int.toNat a_1) (Ty.dflt t60)).snd.fst) =
 false →
 ((IntKind.wrap IntKind.i64 (a_1 + (1 : Int)) =
 IntKind.wrap IntKind.i64 (a_1 + (1 : Int)) ∧
 a = a ∧
 x.snd.fst = x.snd.fst ∧
 True ∧
 allM x.fst = allM x.fst ∧
 (↑(List.length (allM x.fst)) : Int) =
 (↑(List.length (allM x.fst)) : Int)) ∧
 a_2 = a_2 ∧ a_3 = a_3 ∧ a_4 = a_4 ∧ a_5 = a_5) ∧
 Z (a, IntKind.wrap IntKind.i64 (a_1 + (1 : Int)), a_2, a_3, a_4, a_5, ()) ∧
 μ (a, IntKind.wrap IntKind.i64 (a_1 + (1 : Int)), a_2, a_3, a_4, a_5, ()) <
 μ (a, a_1, a_2, a_3, a_4, a_5, ()))) ∧
 (decide ((List.getD (allM x.fst) (Int.toNat a_1) (Ty.dflt t60)).fst ≤ x.snd.fst) = false →
 ((IntKind.wrap IntKind.i64 (a_1 + (1 : Int)) = IntKind.wrap IntKind.i64 (a_1 + (1 : Int)) ∧
 a = a ∧
 x.snd.fst = x.snd.fst ∧
 True ∧
 allM x.fst = allM x.fst ∧
 (↑(List.length (allM x.fst)) : Int) = (↑(List.length (allM x.fst)) : Int)) ∧
 a_2 = a_2 ∧ a_3 = a_3 ∧ a_4 = a_4 ∧ a_5 = a_5) ∧
 Z (a, IntKind.wrap IntKind.i64 (a_1 + (1 : Int)), a_2, a_3, a_4, a_5, ()) ∧
 μ (a, IntKind.wrap IntKind.i64 (a_1 + (1 : Int)), a_2, a_3, a_4, a_5, ()) <
 μ (a, a_1, a_2, a_3, a_4, a_5, ()))) ∧
 (decide (a_1 < (↑(List.length (allM x.fst)) : Int)) = false → a_4 = atL (allM x.fst) x.snd.fst)
theorem vcEq13 : fnVC E13 Try.f13 (bodyOf Try.f13) cAt = vc13 := by kernel_rfl
/- fn 14 -/
def hs14 : List (Nat × Nat × Hint) := [(0, 4, ⟨[.slot 5 t3, .slot 6 t3, .slot 12 t3], [1, 10, 11], [], []⟩)]
def nm14 : List Nat := [3000000025, 3000000026]
noncomputable def E14 : Env := env tab [] [] noGl hs14 nm14
def vc14 : Prop :=
 ∀ (x : (Int × List (Int × Int × Int × Int × Unit) × Int × Unit) × Int × Unit),
 List.length x.fst.snd.fst ≤ (10000 : Nat) →
 ((0 : Int) = (0 : Int) ∧
 (0 : Int) = (0 : Int) ∧
 (0 : Int) = (0 : Int) ∧
 x.snd.fst = x.snd.fst ∧
 x.fst.snd.fst = x.fst.snd.fst ∧
 (↑(List.length x.fst.snd.fst) : Int) = (↑(List.length x.fst.snd.fst) : Int)) ∧
 ∃ (Z : Int × Int × Int × Unit → Prop),
 ∃ (μ : Int × Int × Int × Unit → Nat),
 Z ((0 : Int), (0 : Int), (0 : Int), ()) ∧
 ∀ (a a_1 a_2 : Int),
 Z (a, a_1, a_2, ()) →
 (decide (a_2 < (↑(List.length x.fst.snd.fst) : Int)) = true →
 ((0 : Int) ≤ a_2 ∧ a_2 < (↑(List.length x.fst.snd.fst) : Int)) ∧
 (decide (x.snd.fst ≥ (List.getD x.fst.snd.fst (Int.toNat a_2) (Ty.dflt t64)).fst) = true →
 (decide (x.snd.fst < (List.getD x.fst.snd.fst (Int.toNat a_2) (Ty.dflt t64)).snd.fst) = true →
 ((a == (0 : Int)) = true →
 (IntKind.wrap IntKind.i64 (a_2 + (1 : Int)) =
 IntKind.wrap IntKind.i64 (a_2 + (1 : Int)) ∧
 (List.getD x.fst.snd.fst (Int.toNat a_2) (Ty.dflt t64)).snd.snd.snd.fst =
 (List.getD x.fst.snd.fst (Int.toNat a_2) (Ty.dflt t64)).snd.snd.snd.fst ∧
 (List.getD x.fst.snd.fst (Int.toNat a_2) (Ty.dflt t64)).snd.snd.fst =
 (List.getD x.fst.snd.fst (Int.toNat a_2) (Ty.dflt t64)).snd.snd.fst ∧
 x.snd.fst = x.snd.fst ∧
 x.fst.snd.fst = x.fst.snd.fst ∧
 (↑(List.length x.fst.snd.fst) : Int) =
 (↑(List.length x.fst.snd.fst) : Int)) ∧
 Z
 ((List.getD x.fst.snd.fst (Int.toNat a_2) (Ty.dflt t64)).snd.snd.fst,
 (List.getD x.fst.snd.fst (Int.toNat a_2) (Ty.dflt t64)).snd.snd.snd.fst,
 IntKind.wrap IntKind.i64 (a_2 + (1 : Int)), ()) ∧
 μ
 ((List.getD x.fst.snd.fst (Int.toNat a_2) (Ty.dflt t64)).snd.snd.fst,
 (List.getD x.fst.snd.fst (Int.toNat a_2) (Ty.dflt t64)).snd.snd.snd.fst,
 IntKind.wrap IntKind.i64 (a_2 + (1 : Int)), ()) <
 μ (a, a_1, a_2, ())) ∧
 ((a == (0 : Int)) = false →
 (decide
 ((List.getD x.fst.snd.fst (Int.toNat a_2) (Ty.dflt t64)).snd.snd.snd.fst ≥
 a_1) =
 true →
 (IntKind.wrap IntKind.i64 (a_2 + (1 : Int)) =
 IntKind.wrap IntKind.i64 (a_2 + (1 : Int)) ∧
 (List.getD x.fst.snd.fst (Int.toNat a_2) (Ty.dflt t64)).snd.snd.snd.fst =
 (List.getD x.fst.snd.fst (Int.toNat a_2) (Ty.dflt t64)).snd.snd.snd.fst ∧
 (List.getD x.fst.snd.fst (Int.toNat a_2) (Ty.dflt t64)).snd.snd.fst =
 (List.getD x.fst.snd.fst (Int.toNat a_2) (Ty.dflt t64)).snd.snd.fst ∧
 x.snd.fst = x.snd.fst ∧
 x.fst.snd.fst = x.fst.snd.fst ∧
 (↑(List.length x.fst.snd.fst) : Int) =
 (↑(List.length x.fst.snd.fst) : Int)) ∧
 Z
 ((List.getD x.fst.snd.fst (Int.toNat a_2) (Ty.dflt t64)).snd.snd.fst,
 (List.getD x.fst.snd.fst (Int.toNat a_2) (Ty.dflt t64)).snd.snd.snd.fst,
 IntKind.wrap IntKind.i64 (a_2 + (1 : Int)), ()) ∧
 μ
 ((List.getD x.fst.snd.fst (Int.toNat a_2) (Ty.dflt t64)).snd.snd.fst,
 (List.getD x.fst.snd.fst (Int.toNat a_2) (Ty.dflt t64)).snd.snd.snd.fst,
 IntKind.wrap IntKind.i64 (a_2 + (1 : Int)), ()) <
 μ (a, a_1, a_2, ())) ∧
 (decide
 ((List.getD x.fst.snd.fst (Int.toNat a_2) (Ty.dflt t64)).snd.snd.snd.fst ≥
 a_1) =
 false →
 (IntKind.wrap IntKind.i64 (a_2 + (1 : Int)) =
 IntKind.wrap IntKind.i64 (a_2 + (1 : Int)) ∧
 a_1 = a_1 ∧
 a = a ∧
 x.snd.fst = x.snd.fst ∧
 x.fst.snd.fst = x.fst.snd.fst ∧
 (↑(List.length x.fst.snd.fst) : Int) =
 (↑(List.length x.fst.snd.fst) : Int)) ∧
 Z (a, a_1, IntKind.wrap IntKind.i64 (a_2 + (1 : Int)), ()) ∧
 μ (a, a_1, IntKind.wrap IntKind.i64 (a_2 + (1 : Int)), ()) <
 μ (a, a_1, a_2, ())))) ∧
 (decide (x.snd.fst < (List.getD x.fst.snd.fst (Int.toNat a_2) (Ty.dflt t64)).snd.fst) =
 false →
 (IntKind.wrap IntKind.i64 (a_2 + (1 : Int)) = IntKind.wrap IntKind.i64 (a_2 + (1 : Int)) ∧
 a_1 = a_1 ∧
 a = a ∧
 x.snd.fst = x.snd.fst ∧
 x.fst.snd.fst = x.fst.snd.fst ∧
 (↑(List.length x.fst.snd.fst) : Int) = (↑(List.length x.fst.snd.fst) : Int)) ∧
 Z (a, a_1, IntKind.wrap IntKind.i64 (a_2 + (1 : Int)), ()) ∧
 μ (a, a_1, IntKind.wrap IntKind.i64 (a_2 + (1 : Int)), ()) < μ (a, a_1, a_2, ()))) ∧
 (decide (x.snd.fst ≥ (List.getD x.fst.snd.fst (Int.toNat a_2) (Ty.dflt t64)).fst) = false →
 (IntKind.wrap IntKind.i64 (a_2 + (1 : Int)) = IntKind.wrap IntKind.i64 (a_2 + (1 : Int)) ∧
 a_1 = a_1 ∧
 a = a ∧
 x.snd.fst = x.snd.fst ∧
 x.fst.snd.fst = x.fst.snd.fst ∧
 (↑(List.length x.fst.snd.fst) : Int) = (↑(List.length x.fst.snd.fst) : Int)) ∧
 Z (a, a_1, IntKind.wrap IntKind.i64 (a_2 + (1 : Int)), ()) ∧
 μ (a, a_1, IntKind.wrap IntKind.i64 (a_2 + (1 : Int)), ()) < μ (a, a_1, a_2, ()))) ∧
 (decide (a_2 < (↑(List.length x.fst.snd.fst) : Int)) = false → a = atL x.fst.snd.fst x.snd.fst)
theorem vcEq14 : fnVC E14 Try.f14 (bodyOf Try.f14) cRefAt = vc14 := by kernel_rfl
/- fn 15 -/
def hs15 : List (Nat × Nat × Hint) := [(0, 3, ⟨[.rowS 3 900000003 t3 3, .slot 14 t3], [0, 12, 13], [], []⟩),
  (0, 11, ⟨[.rowS 6 900000006 t3 3, .slot 7 t3, .slot 31 t3], [0, 29, 30], [], [29]⟩)]
def nm15 : List Nat := [3000000025, 3000000026]
noncomputable def E15 : Env := envR tab [(23, cAll), (13, cAt)] [] noGl hs15 nm15 [(25, rSort), (26, rCompact)]
def vc15 : Prop :=
 ∀ (x : Option (Int × List (Int × Int × Int × Int × Unit) × Unit) × Unit),
 okSet x.fst →
 List.length (allM x.fst) ≤ (10000 : Nat) ∧
 (((0 : Int) = (0 : Int) ∧
 True ∧
 x.fst = x.fst ∧
 allM x.fst = allM x.fst ∧ (↑(List.length (allM x.fst)) : Int) = (↑(List.length (allM x.fst)) : Int)) ∧
 True ∧ True) ∧
 ∃ (Z : List Int × Int × Unit → Prop),
 ∃ (μ : List Int × Int × Unit → Nat),
 Z ([], (0 : Int), ()) ∧
 ∀ (a : List Int) (a_1 : Int),
 Z (a, a_1, ()) →
 (decide (a_1 < (↑(List.length (allM x.fst)) : Int)) = true →
 ((0 : Int) ≤ a_1 ∧ a_1 < (↑(List.length (allM x.fst)) : Int)) ∧
 (List.length a +
 List.length
 [(List.getD (allM x.fst) (Int.toNat a_1) (Ty.dflt t60)).fst,
 (List.getD (allM x.fst) (Int.toNat a_1) (Ty.dflt t60)).snd.fst]) *
 (8 : Nat) ≤
 (140737488355328 : Nat) ∧
 List.length a +
 List.length
 [(List.getD (allM x.fst) (Int.toNat a_1) (Ty.dflt t60)).fst,
 (List.getD (allM x.fst) (Int.toNat a_1) (Ty.dflt t60)).snd.fst] ≤
 maxLen ∧
 ((IntKind.wrap IntKind.i64 (a_1 + (1 : Int)) = IntKind.wrap IntKind.i64 (a_1 + (1 : Int)) ∧
 True ∧
 x.fst = x.fst ∧
 allM x.fst = allM x.fst ∧
 (↑(List.length (allM x.fst)) : Int) = (↑(List.length (allM x.fst)) : Int)) ∧
 a ++
 [(List.getD (allM x.fst) (Int.toNat a_1) (Ty.dflt t60)).fst,
 (List.getD (allM x.fst) (Int.toNat a_1) (Ty.dflt t60)).snd.fst] =
 a ++
 [(List.getD (allM x.fst) (Int.toNat a_1) (Ty.dflt t60)).fst,
 (List.getD (allM x.fst) (Int.toNat a_1) (Ty.dflt t60)).snd.fst] ∧
 True) ∧
 Z
 (a ++
 [(List.getD (allM x.fst) (Int.toNat a_1) (Ty.dflt t60)).fst,
 (List.getD (allM x.fst) (Int.toNat a_1) (Ty.dflt t60)).snd.fst],
 IntKind.wrap IntKind.i64 (a_1 + (1 : Int)), ()) ∧
 μ
 (a ++
 [(List.getD (allM x.fst) (Int.toNat a_1) (Ty.dflt t60)).fst,
 (List.getD (allM x.fst) (Int.toNat a_1) (Ty.dflt t60)).snd.fst],
 IntKind.wrap IntKind.i64 (a_1 + (1 : Int)), ()) <
 μ (a, a_1, ())) ∧
 (decide (a_1 < (↑(List.length (allM x.fst)) : Int)) = false →
 List.length a ≤ (1000 : Nat) ∧
 ∀ (ys : List Int),
 ys = sortL a →
 List.length ys ≤ (1000 : Nat) ∧
 ∀ (ys_1 : List Int),
 ys_1 = compactL ys →
 (((0 : Int) = (0 : Int) ∧
 (0 : Int) = (0 : Int) ∧
 True ∧
 x.fst = x.fst ∧
 True ∧ (↑(List.length ys_1) : Int) = (↑(List.length ys_1) : Int)) ∧
 True ∧ ys_1 = ys_1 ∧ True) ∧
 ∃ (Z : List Int × Int × Int × Unit → Prop),
 ∃ (μ : List Int × Int × Int × Unit → Nat),
 Z ([], (0 : Int), (0 : Int), ()) ∧
 ∀ (a : List Int) (a_4 a_5 : Int),
 Z (a, a_4, a_5, ()) →
 (decide (a_5 < (↑(List.length ys_1) : Int)) = true →
 ((0 : Int) ≤ a_5 ∧ a_5 < (↑(List.length ys_1) : Int)) ∧
 okSet x.fst ∧
 ((atL (allM x.fst)
 (List.getD ys_1 (Int.toNat a_5) (Ty.dflt rCompact.t)) !=
 a_4) =
 true →
 (List.length a +
 List.length
 [List.getD ys_1 (Int.toNat a_5)
 (Ty.dflt rCompact.t)]) *
 (8 : Nat) ≤
 (140737488355328 : Nat) ∧
 List.length a +
 List.length
 [List.getD ys_1 (Int.toNat a_5)
 (Ty.dflt rCompact.t)] ≤
 maxLen ∧
 ((IntKind.wrap IntKind.i64 (a_5 + (1 : Int)) =
 IntKind.wrap IntKind.i64 (a_5 + (1 : Int)) ∧
 atL (allM x.fst)
 (List.getD ys_1 (Int.toNat a_5)
 (Ty.dflt rCompact.t)) =
 atL (allM x.fst)
 (List.getD ys_1 (Int.toNat a_5)
 (Ty.dflt rCompact.t)) ∧
 True ∧
 x.fst = x.fst ∧
 True ∧
 (↑(List.length ys_1) : Int) =
 (↑(List.length ys_1) : Int)) ∧
 a ++
 [List.getD ys_1 (Int.toNat a_5)
 (Ty.dflt rCompact.t)] =
 a ++
 [List.getD ys_1 (Int.toNat a_5)
 (Ty.dflt rCompact.t)] ∧
 ys_1 = ys_1 ∧ True) ∧
 Z
 (a ++
 [List.getD ys_1 (Int.toNat a_5)
 (Ty.dflt rCompact.t)],
 atL (allM x.fst)
 (List.getD ys_1 (Int.toNat a_5)
 (Ty.dflt rCompact.t)),
 IntKind.wrap IntKind.i64 (a_5 + (1 : Int)), ()) ∧
 μ
 (a ++
 [List.getD ys_1 (Int.toNat a_5)
 (Ty.dflt rCompact.t)],
 atL (allM x.fst)
 (List.getD ys_1 (Int.toNat a_5)
 (Ty.dflt rCompact.t)),
 IntKind.wrap IntKind.i64 (a_5 + (1 : Int)),
 ()) <
 μ (a, a_4, a_5, ())) ∧
 ((atL (allM x.fst)
 (List.getD ys_1 (Int.toNat a_5) (Ty.dflt rCompact.t)) !=
 a_4) =
 false →
 ((IntKind.wrap IntKind.i64 (a_5 + (1 : Int)) =
 IntKind.wrap IntKind.i64 (a_5 + (1 : Int)) ∧
 a_4 = a_4 ∧
 True ∧
 x.fst = x.fst ∧
 True ∧
 (↑(List.length ys_1) : Int) =
 (↑(List.length ys_1) : Int)) ∧
 a = a ∧ ys_1 = ys_1 ∧ True) ∧
 Z (a, a_4, IntKind.wrap IntKind.i64 (a_5 + (1 : Int)), ()) ∧
 μ
 (a, a_4, IntKind.wrap IntKind.i64 (a_5 + (1 : Int)),
 ()) <
 μ (a, a_4, a_5, ()))) ∧
 (decide (a_5 < (↑(List.length ys_1) : Int)) = false →
 a = edgesL (allM x.fst)))
theorem vcEq15 : fnVC E15 Try.f15 (bodyOf Try.f15) cEdges = vc15 := by kernel_rfl
/- fn 16 -/
def hs16 : List (Nat × Nat × Hint) := [(0, 2, ⟨[.slot 8 t3], [0, 1, 7], [], []⟩)]
def nm16 : List Nat := [3000000025, 3000000026]
noncomputable def E16 : Env := env tab [] [] noGl hs16 nm16
def vc16 : Prop :=
 ∀ (x : List Int × List Int × Unit),
 List.length x.fst ≤ maxLen ∧ List.length x.snd.fst ≤ maxLen →
 ((0 : Int) = (0 : Int) ∧
 x.fst = x.fst ∧ x.snd.fst = x.snd.fst ∧ (↑(List.length x.fst) : Int) = (↑(List.length x.fst) : Int)) ∧
 ∃ (Z : Int × Unit → Prop),
 ∃ (μ : Int × Unit → Nat),
 Z ((0 : Int), ()) ∧
 ∀ (a : Int),
 Z (a, ()) →
 (decide (a < (↑(List.length x.fst) : Int)) = true →
 (decide (a ≥ (↑(List.length x.snd.fst) : Int)) = true → false = decide (x.fst = x.snd.fst)) ∧
 (decide (a ≥ (↑(List.length x.snd.fst) : Int)) = false →
 ((0 : Int) ≤ a ∧ a < (↑(List.length x.fst) : Int)) ∧
 ((0 : Int) ≤ a ∧ a < (↑(List.length x.snd.fst) : Int)) ∧
 ((List.getD x.fst (Int.toNat a) (Ty.dflt t3) !=
 List.getD x.snd.fst (Int.toNat a) (Ty.dflt t3)) =
 true →
 false = decide (x.fst = x.snd.fst)) ∧
 ((List.getD x.fst (Int.toNat a) (Ty.dflt t3) !=
 List.getD x.snd.fst (Int.toNat a) (Ty.dflt t3)) =
 false →
 (IntKind.wrap IntKind.i64 (a + (1 : Int)) = IntKind.wrap IntKind.i64 (a + (1 : Int)) ∧
 x.fst = x.fst ∧
 x.snd.fst = x.snd.fst ∧
 (↑(List.length x.fst) : Int) = (↑(List.length x.fst) : Int)) ∧
 Z (IntKind.wrap IntKind.i64 (a + (1 : Int)), ()) ∧
 μ (IntKind.wrap IntKind.i64 (a + (1 : Int)), ()) < μ (a, ())))) ∧
 (decide (a < (↑(List.length x.fst) : Int)) = false →
 ((↑(List.length x.fst) : Int) == (↑(List.length x.snd.fst) : Int)) = decide (x.fst = x.snd.fst))
theorem vcEq16 : fnVC E16 Try.f16 (bodyOf Try.f16) cInts = vc16 := by kernel_rfl
/- fn 17 -/
def hs17 : List (Nat × Nat × Hint) := [(0, 4, ⟨[.rowS 3 900000003 t3 3, .slot 4 t3, .slot 5 t3], [1], [1], []⟩)]
def nm17 : List Nat := [3000000025, 3000000026]
noncomputable def E17 : Env := env tab [(14, cRefAt)] [] noGl hs17 nm17
def vc17 : Prop :=
 ∀ (x : (Int × List (Int × Int × Int × Int × Unit) × Int × Unit) × Unit),
 List.length x.fst.snd.fst ≤ (10000 : Nat) ∧ (0 : Int) ≤ x.fst.fst ∧ x.fst.fst ≤ (300 : Int) →
 (((0 : Int) = (0 : Int) ∧ (0 : Int) = (0 : Int) ∧ True ∧ True) ∧
 (x.fst.fst = x.fst.fst ∧ x.fst.snd.fst = x.fst.snd.fst ∧ x.fst.snd.snd.fst = x.fst.snd.snd.fst) ∧ True ∧ True) ∧
 ∃ (Z : List Int × Int × Int × Unit → Prop),
 ∃ (μ : List Int × Int × Int × Unit → Nat),
 Z ([], (0 : Int), (0 : Int), ()) ∧
 ∀ (a : List Int) (a_1 a_2 : Int),
 Z (a, a_1, a_2, ()) →
 (decide (a_2 ≤ x.fst.fst) = true →
 List.length x.fst.snd.fst ≤ (10000 : Nat) ∧
 ((atL x.fst.snd.fst a_2 != a_1) = true →
 (List.length a + List.length [a_2]) * (8 : Nat) ≤ (140737488355328 : Nat) ∧
 List.length a + List.length [a_2] ≤ maxLen ∧
 ((IntKind.wrap IntKind.i64 (a_2 + (1 : Int)) =
 IntKind.wrap IntKind.i64 (a_2 + (1 : Int)) ∧
 atL x.fst.snd.fst a_2 = atL x.fst.snd.fst a_2 ∧ True ∧ True) ∧
 (x.fst.fst = x.fst.fst ∧
 x.fst.snd.fst = x.fst.snd.fst ∧ x.fst.snd.snd.fst = x.fst.snd.snd.fst) ∧
 a ++ [a_2] = a ++ [a_2] ∧ True) ∧
 Z (a ++ [a_2], atL x.fst.snd.fst a_2, IntKind.wrap IntKind.i64 (a_2 + (1 : Int)), ()) ∧
 μ
 (a ++ [a_2], atL x.fst.snd.fst a_2, IntKind.wrap IntKind.i64 (a_2 + (1 : Int)),
 ()) <
 μ (a, a_1, a_2, ())) ∧
 ((atL x.fst.snd.fst a_2 != a_1) = false →
 ((IntKind.wrap IntKind.i64 (a_2 + (1 : Int)) = IntKind.wrap IntKind.i64 (a_2 + (1 : Int)) ∧
 atL x.fst.snd.fst a_2 = atL x.fst.snd.fst a_2 ∧ True ∧ True) ∧
 (x.fst.fst = x.fst.fst ∧
 x.fst.snd.fst = x.fst.snd.fst ∧ x.fst.snd.snd.fst = x.fst.snd.snd.fst) ∧
 a = a ∧ True) ∧
 Z (a, atL x.fst.snd.fst a_2, IntKind.wrap IntKind.i64 (a_2 + (1 : Int)), ()) ∧
 μ (a, atL x.fst.snd.fst a_2, IntKind.wrap IntKind.i64 (a_2 + (1 : Int)), ()) <
 μ (a, a_1, a_2, ()))) ∧
 (decide (a_2 ≤ x.fst.fst) = false → a = refEdges x.fst.fst x.fst.snd.fst)
theorem vcEq17 : fnVC E17 Try.f17 (bodyOf Try.f17) cRefEdges = vc17 := by kernel_rfl
/- fn 18 -/
def hs18 : List (Nat × Nat × Hint) := [(0, 4, ⟨[.rowS 5 900000005 t3 3, .slot 6 t3, .slot 13 t3], [0, 11, 12], [], []⟩),
  (280036, 1, ⟨[.slot 280040 t3, .rowC 9 0 950000450 t48 48], [280036, 280037, 9], [3, 8, 9], []⟩),
  (280036, 3, ⟨[.slot 280041 t3], [280036, 280037, 280040, 9], [3, 8, 9], [950000450]⟩)]
def nm18 : List Nat := [3000000025, 3000000026]
noncomputable def E18 : Env := env tab [(13, cAt)] [(28, Try.f28), (27, Try.f27)] noGl hs18 nm18
def vc18 : Prop :=
 ∀
 (x :
 Option (Int × List (Int × Int × Int × Int × Unit) × Unit) ×
 (List (Int × Int × Int × Int × Unit) × Int × Int × Int × Bool × Bool × Int × Unit) × Unit),
 okSet x.fst ∧ List.length x.snd.fst.fst ≤ (10000 : Nat) →
 (((0 : Int) = (0 : Int) ∧
 (0 : Int) = (0 : Int) ∧
 True ∧
 x.fst = x.fst ∧
 x.snd.fst.fst = x.snd.fst.fst ∧
 (↑(List.length x.snd.fst.fst) : Int) = (↑(List.length x.snd.fst.fst) : Int)) ∧
 True ∧ True) ∧
 ∃ (Z : List Int × Int × Int × Unit → Prop),
 ∃ (μ : List Int × Int × Int × Unit → Nat),
 Z ([], (0 : Int), (0 : Int), ()) ∧
 ∀ (a : List Int) (a_1 a_2 : Int),
 Z (a, a_1, a_2, ()) →
 (decide (a_2 < (↑(List.length x.snd.fst.fst) : Int)) = true →
 ((0 : Int) ≤ a_2 ∧ a_2 < (↑(List.length x.snd.fst.fst) : Int)) ∧
 (((List.getD x.snd.fst.fst (Int.toNat a_2) (Ty.dflt t68)).snd.fst == (1 : Int)) = true →
 okSet x.fst ∧
 (List.length a +
 List.length
 [atL (allM x.fst)
 (List.getD x.snd.fst.fst (Int.toNat a_2) (Ty.dflt t68)).snd.snd.snd.fst]) *
 (8 : Nat) ≤
 (140737488355328 : Nat) ∧
 List.length a +
 List.length
 [atL (allM x.fst)
 (List.getD x.snd.fst.fst (Int.toNat a_2) (Ty.dflt t68)).snd.snd.snd.fst] ≤
 maxLen ∧
 ((IntKind.wrap IntKind.i64 (a_2 + (1 : Int)) =
 IntKind.wrap IntKind.i64 (a_2 + (1 : Int)) ∧
 atL (allM x.fst)
 (List.getD x.snd.fst.fst (Int.toNat a_2) (Ty.dflt t68)).snd.snd.snd.fst =
 atL (allM x.fst)
 (List.getD x.snd.fst.fst (Int.toNat a_2) (Ty.dflt t68)).snd.snd.snd.fst ∧
 True ∧
 x.fst = x.fst ∧
 x.snd.fst.fst = x.snd.fst.fst ∧
 (↑(List.length x.snd.fst.fst) : Int) =
 (↑(List.length x.snd.fst.fst) : Int)) ∧
 a ++
 [atL (allM x.fst)
 (List.getD x.snd.fst.fst (Int.toNat a_2) (Ty.dflt t68)).snd.snd.snd.fst] =
 a ++
 [atL (allM x.fst)
 (List.getD x.snd.fst.fst (Int.toNat a_2) (Ty.dflt t68)).snd.snd.snd.fst] ∧
 True) ∧
 Z
 (a ++
 [atL (allM x.fst)
 (List.getD x.snd.fst.fst (Int.toNat a_2) (Ty.dflt t68)).snd.snd.snd.fst],
 atL (allM x.fst)
 (List.getD x.snd.fst.fst (Int.toNat a_2) (Ty.dflt t68)).snd.snd.snd.fst,
 IntKind.wrap IntKind.i64 (a_2 + (1 : Int)), ()) ∧
 μ
 (a ++
 [atL (allM x.fst)
 (List.getD x.snd.fst.fst (Int.toNat a_2)
 (Ty.dflt t68)).snd.snd.snd.fst],
 atL (allM x.fst)
 (List.getD x.snd.fst.fst (Int.toNat a_2) (Ty.dflt t68)).snd.snd.snd.fst,
 IntKind.wrap IntKind.i64 (a_2 + (1 : Int)), ()) <
 μ (a, a_1, a_2, ())) ∧
 (((List.getD x.snd.fst.fst (Int.toNat a_2) (Ty.dflt t68)).snd.fst == (1 : Int)) = false →
 (((List.getD x.snd.fst.fst (Int.toNat a_2) (Ty.dflt t68)).snd.fst == (4 : Int)) = true →
 (List.length a + List.length [a_1]) * (8 : Nat) ≤ (140737488355328 : Nat) ∧
 List.length a + List.length [a_1] ≤ maxLen ∧
 ((IntKind.wrap IntKind.i64 (a_2 + (1 : Int)) =
 IntKind.wrap IntKind.i64 (a_2 + (1 : Int)) ∧
 a_1 = a_1 ∧
 True ∧
 x.fst = x.fst ∧
 x.snd.fst.fst = x.snd.fst.fst ∧
 (↑(List.length x.snd.fst.fst) : Int) =
 (↑(List.length x.snd.fst.fst) : Int)) ∧
 a ++ [a_1] = a ++ [a_1] ∧ True) ∧
 Z (a ++ [a_1], a_1, IntKind.wrap IntKind.i64 (a_2 + (1 : Int)), ()) ∧
 μ (a ++ [a_1], a_1, IntKind.wrap IntKind.i64 (a_2 + (1 : Int)), ()) <
 μ (a, a_1, a_2, ())) ∧
 (((List.getD x.snd.fst.fst (Int.toNat a_2) (Ty.dflt t68)).snd.fst == (4 : Int)) = false →
 (List.length a + List.length [(0 : Int)]) * (8 : Nat) ≤ (140737488355328 : Nat) ∧
 List.length a + List.length [(0 : Int)] ≤ maxLen ∧
 ((IntKind.wrap IntKind.i64 (a_2 + (1 : Int)) =
 IntKind.wrap IntKind.i64 (a_2 + (1 : Int)) ∧
 (0 : Int) = (0 : Int) ∧
 True ∧
 x.fst = x.fst ∧
 x.snd.fst.fst = x.snd.fst.fst ∧
 (↑(List.length x.snd.fst.fst) : Int) =
 (↑(List.length x.snd.fst.fst) : Int)) ∧
 a ++ [(0 : Int)] = a ++ [(0 : Int)] ∧ True) ∧
 Z (a ++ [(0 : Int)], (0 : Int), IntKind.wrap IntKind.i64 (a_2 + (1 : Int)), ()) ∧
 μ (a ++ [(0 : Int)], (0 : Int), IntKind.wrap IntKind.i64 (a_2 + (1 : Int)), ()) <
 μ (a, a_1, a_2, ())))) ∧
 (decide (a_2 < (↑(List.length x.snd.fst.fst) : Int)) = false →
 (((0 : Int) = (0 : Int) ∧ a = a ∧ True ∧ True) ∧ True ∧ True ∧ True) ∧
 ∃ (Z : Int × List (Int × Int × Unit) × Unit → Prop),
 ∃ (μ : Int × List (Int × Int × Unit) × Unit → Nat),
 Z ((0 : Int), [], ()) ∧
 ∀ (a_5 : Int) (a_6 : List (Int × Int × Unit)),
 Z (a_5, a_6, ()) →
 (decide (a_5 < (↑(List.length a) : Int)) = true →
 (((1 : Int) = (1 : Int) ∧ a = a ∧ True ∧ a_5 = a_5 ∧ True) ∧
 True ∧ a_6 = a_6 ∧ True) ∧
 ∃ (Z_1 : Int × Unit → Prop),
 ∃ (μ_1 : Int × Unit → Nat),
 Z_1 ((1 : Int), ()) ∧
 ∀ (a_9 : Int),
 Z_1 (a_9, ()) →
 (decide
 (IntKind.wrap IntKind.i64 (a_5 + a_9) <
 (↑(List.length a) : Int)) =
 true →
 ((0 : Int) ≤ IntKind.wrap IntKind.i64 (a_5 + a_9) ∧
 IntKind.wrap IntKind.i64 (a_5 + a_9) <
 (↑(List.length a) : Int)) ∧
 ((0 : Int) ≤ a_5 ∧ a_5 < (↑(List.length a) : Int)) ∧
 ((List.getD a (Int.toNat (IntKind.wrap IntKind.i64 (a_5 + a_9)))
 (Ty.dflt t3) ==
 List.getD a (Int.toNat a_5) (Ty.dflt t3)) =
 true →
 ((IntKind.wrap IntKind.i64 (a_9 + (1 : Int)) =
 IntKind.wrap IntKind.i64 (a_9 + (1 : Int)) ∧
 a = a ∧ True ∧ a_5 = a_5 ∧ True) ∧
 True ∧ a_6 = a_6 ∧ True) ∧
 Z_1 (IntKind.wrap IntKind.i64 (a_9 + (1 : Int)), ()) ∧
 μ_1 (IntKind.wrap IntKind.i64 (a_9 + (1 : Int)), ()) <
 μ_1 (a_9, ())) ∧
 ((List.getD a
 (Int.toNat (IntKind.wrap IntKind.i64 (a_5 + a_9)))
 (Ty.dflt t3) ==
 List.getD a (Int.toNat a_5) (Ty.dflt t3)) =
 false →
 ((0 : Int) ≤ a_5 ∧ a_5 < (↑(List.length a) : Int)) ∧
 (List.length a_6 +
 List.length
 [(List.getD a (Int.toNat a_5) (Ty.dflt t3), a_9,
 ())]) *
 (16 : Nat) ≤
 (140737488355328 : Nat) ∧
 List.length a_6 +
 List.length
 [(List.getD a (Int.toNat a_5) (Ty.dflt t3), a_9,
 ())] ≤
 maxLen ∧
 ((IntKind.wrap IntKind.i64 (a_5 + a_9) =
 IntKind.wrap IntKind.i64 (a_5 + a_9) ∧
 a = a ∧ True ∧ True) ∧
 True ∧
 a_6 ++
 [(List.getD a (Int.toNat a_5)
 (Ty.dflt t3),
 a_9, ())] =
 a_6 ++
 [(List.getD a (Int.toNat a_5)
 (Ty.dflt t3),
 a_9, ())] ∧
 True) ∧
 Z
 (IntKind.wrap IntKind.i64 (a_5 + a_9),
 a_6 ++
 [(List.getD a (Int.toNat a_5) (Ty.dflt t3),
 a_9, ())],
 ()) ∧
 μ
 (IntKind.wrap IntKind.i64 (a_5 + a_9),
 a_6 ++
 [(List.getD a (Int.toNat a_5)
 (Ty.dflt t3),
 a_9, ())],
 ()) <
 μ (a_5, a_6, ()))) ∧
 (decide
 (IntKind.wrap IntKind.i64 (a_5 + a_9) <
 (↑(List.length a) : Int)) =
 false →
 ((0 : Int) ≤ a_5 ∧ a_5 < (↑(List.length a) : Int)) ∧
 (List.length a_6 +
 List.length
 [(List.getD a (Int.toNat a_5) (Ty.dflt t3), a_9, ())]) *
 (16 : Nat) ≤
 (140737488355328 : Nat) ∧
 List.length a_6 +
 List.length
 [(List.getD a (Int.toNat a_5) (Ty.dflt t3), a_9, ())] ≤
 maxLen ∧
 ((IntKind.wrap IntKind.i64 (a_5 + a_9) =
 IntKind.wrap IntKind.i64 (a_5 + a_9) ∧
 a = a ∧ True ∧ True) ∧
 True ∧
 a_6 ++
 [(List.getD a (Int.toNat a_5) (Ty.dflt t3), a_9,
 ())] =
 a_6 ++
 [(List.getD a (Int.toNat a_5) (Ty.dflt t3), a_9,
 ())] ∧
 True) ∧
 Z
 (IntKind.wrap IntKind.i64 (a_5 + a_9),
 a_6 ++
 [(List.getD a (Int.toNat a_5) (Ty.dflt t3), a_9,
 ())],
 ()) ∧
 μ
 (IntKind.wrap IntKind.i64 (a_5 + a_9),
 a_6 ++
 [(List.getD a (Int.toNat a_5) (Ty.dflt t3), a_9,
 ())],
 ()) <
 μ (a_5, a_6, ()))) ∧
 (decide (a_5 < (↑(List.length a) : Int)) = false →
 a_6 = runsL (styles (atL (allM x.fst)) (0 : Int) x.snd.fst.fst)))
theorem vcEq18 : fnVC E18 Try.f18 (bodyOf Try.f18) cPaint = vc18 := by kernel_rfl
/- fn 19 -/
def hs19 : List (Nat × Nat × Hint) := [(0, 3, ⟨[.rowS 5 900000005 t49 49, .slot 13 t3], [11, 12], [], []⟩)]
def nm19 : List Nat := [3000000025, 3000000026]
noncomputable def E19 : Env := env tab [(29, cRefStyles)] [] noGl hs19 nm19
def vc19 : Prop :=
 ∀
 (x :
 (Int × List (Int × Int × Int × Int × Unit) × Int × Unit) ×
 (List (Int × Int × Int × Int × Unit) × Int × Int × Int × Bool × Bool × Int × Unit) × Unit),
 List.length x.fst.snd.fst ≤ (10000 : Nat) ∧ List.length x.snd.fst.fst ≤ (10000 : Nat) →
 (List.length x.fst.snd.fst ≤ (10000 : Nat) ∧ List.length x.snd.fst.fst ≤ (10000 : Nat)) ∧
 (((0 : Int) = (0 : Int) ∧
 True ∧
 styles (atL x.fst.snd.fst) (0 : Int) x.snd.fst.fst = styles (atL x.fst.snd.fst) (0 : Int) x.snd.fst.fst ∧
 (↑(List.length (styles (atL x.fst.snd.fst) (0 : Int) x.snd.fst.fst)) : Int) =
 (↑(List.length (styles (atL x.fst.snd.fst) (0 : Int) x.snd.fst.fst)) : Int)) ∧
 True ∧ True) ∧
 ∃ (Z : List (Int × Int × Unit) × Int × Unit → Prop),
 ∃ (μ : List (Int × Int × Unit) × Int × Unit → Nat),
 Z ([], (0 : Int), ()) ∧
 ∀ (a : List (Int × Int × Unit)) (a_1 : Int),
 Z (a, a_1, ()) →
 (decide (a_1 < (↑(List.length (styles (atL x.fst.snd.fst) (0 : Int) x.snd.fst.fst)) : Int)) = true →
 ((0 : Int) ≤ a_1 ∧
 a_1 < (↑(List.length (styles (atL x.fst.snd.fst) (0 : Int) x.snd.fst.fst)) : Int)) ∧
 (decide (IntKind.wrap IntKind.i64 ((↑(List.length a) : Int) - (1 : Int)) ≥ (0 : Int)) = true →
 ((0 : Int) ≤ IntKind.wrap IntKind.i64 ((↑(List.length a) : Int) - (1 : Int)) ∧
 IntKind.wrap IntKind.i64 ((↑(List.length a) : Int) - (1 : Int)) <
 (↑(List.length a) : Int)) ∧
 (((List.getD a
 (Int.toNat (IntKind.wrap IntKind.i64 ((↑(List.length a) : Int) - (1 : Int))))
 (Ty.dflt t49)).fst ==
 List.getD (styles (atL x.fst.snd.fst) (0 : Int) x.snd.fst.fst) (Int.toNat a_1)
 (Ty.dflt t3)) =
 true →
 ((0 : Int) ≤ IntKind.wrap IntKind.i64 ((↑(List.length a) : Int) - (1 : Int)) ∧
 IntKind.wrap IntKind.i64 ((↑(List.length a) : Int) - (1 : Int)) <
 (↑(List.length a) : Int)) ∧
 ((0 : Int) ≤ IntKind.wrap IntKind.i64 ((↑(List.length a) : Int) - (1 : Int)) ∧
 IntKind.wrap IntKind.i64 ((↑(List.length a) : Int) - (1 : Int)) <
 (↑(List.length a) : Int)) ∧
 ((IntKind.wrap IntKind.i64 (a_1 + (1 : Int)) =
 IntKind.wrap IntKind.i64 (a_1 + (1 : Int)) ∧
 True ∧
 styles (atL x.fst.snd.fst) (0 : Int) x.snd.fst.fst =
 styles (atL x.fst.snd.fst) (0 : Int) x.snd.fst.fst ∧
 (↑(List.length (styles (atL x.fst.snd.fst) (0 : Int) x.snd.fst.fst)) :
 Int) =
 (↑(List.length (styles (atL x.fst.snd.fst) (0 : Int) x.snd.fst.fst)) :
 Int)) ∧
 List.set a
 (Int.toNat
 (IntKind.wrap IntKind.i64 ((↑(List.length a) : Int) - (1 : Int))))
 ((List.getD a
 (Int.toNat
 (IntKind.wrap IntKind.i64
 ((↑(List.length a) : Int) - (1 : Int))))
 (Ty.dflt t49)).fst,
 IntKind.wrap IntKind.i64
 ((List.getD a
 (Int.toNat
 (IntKind.wrap IntKind.i64
 ((↑(List.length a) : Int) - (1 : Int))))
 (Ty.dflt t49)).snd.fst +
 (1 : Int)),
 ()) =
 List.set a
 (Int.toNat
 (IntKind.wrap IntKind.i64 ((↑(List.length a) : Int) - (1 : Int))))
 ((List.getD a
 (Int.toNat
 (IntKind.wrap IntKind.i64
 ((↑(List.length a) : Int) - (1 : Int))))
 (Ty.dflt t49)).fst,
 IntKind.wrap IntKind.i64
 ((List.getD a
 (Int.toNat
 (IntKind.wrap IntKind.i64
 ((↑(List.length a) : Int) - (1 : Int))))
 (Ty.dflt t49)).snd.fst +
 (1 : Int)),
 ()) ∧
 True) ∧
 Z
 (List.set a
 (Int.toNat
 (IntKind.wrap IntKind.i64 ((↑(List.length a) : Int) - (1 : Int))))
 ((List.getD a
 (Int.toNat
 (IntKind.wrap IntKind.i64
 ((↑(List.length a) : Int) - (1 : Int))))
 (Ty.dflt t49)).fst,
 IntKind.wrap IntKind.i64
 ((List.getD a
 (Int.toNat
 (IntKind.wrap IntKind.i64
 ((↑(List.length a) : Int) - (1 : Int))))
 (Ty.dflt t49)).snd.fst +
 (1 : Int)),
 ()),
 IntKind.wrap IntKind.i64 (a_1 + (1 : Int)), ()) ∧
 μ
 (List.set a
 (Int.toNat
 (IntKind.wrap IntKind.i64 ((↑(List.length a) : Int) - (1 : Int))))
 ((List.getD a
 (Int.toNat
 (IntKind.wrap IntKind.i64
 ((↑(List.length a) : Int) - (1 : Int))))
 (Ty.dflt t49)).fst,
 IntKind.wrap IntKind.i64
 ((List.getD a
 (Int.toNat
 (IntKind.wrap IntKind.i64
 ((↑(List.length a) : Int) - (1 : Int))))
 (Ty.dflt t49)).snd.fst +
 (1 : Int)),
 ()),
 IntKind.wrap IntKind.i64 (a_1 + (1 : Int)), ()) <
 μ (a, a_1, ())) ∧
 (((List.getD a
 (Int.toNat (IntKind.wrap IntKind.i64 ((↑(List.length a) : Int) - (1 : Int))))
 (Ty.dflt t49)).fst ==
 List.getD (styles (atL x.fst.snd.fst) (0 : Int) x.snd.fst.fst) (Int.toNat a_1)
 (Ty.dflt t3)) =
 false →
 (List.length a +
 List.length
 [(List.getD (styles (atL x.fst.snd.fst) (0 : Int) x.snd.fst.fst)
 (Int.toNat a_1) (Ty.dflt t3),
 (1 : Int), ())]) *
 (16 : Nat) ≤
 (140737488355328 : Nat) ∧
 List.length a +
 List.length
 [(List.getD (styles (atL x.fst.snd.fst) (0 : Int) x.snd.fst.fst)
 (Int.toNat a_1) (Ty.dflt t3),
 (1 : Int), ())] ≤
 maxLen ∧
 ((IntKind.wrap IntKind.i64 (a_1 + (1 : Int)) =
 IntKind.wrap IntKind.i64 (a_1 + (1 : Int)) ∧
 True ∧
 styles (atL x.fst.snd.fst) (0 : Int) x.snd.fst.fst =
 styles (atL x.fst.snd.fst) (0 : Int) x.snd.fst.fst ∧
 (↑(List.length (styles (atL x.fst.snd.fst) (0 : Int) x.snd.fst.fst)) :
 Int) =
 (↑(List.length (styles (atL x.fst.snd.fst) (0 : Int) x.snd.fst.fst)) :
 Int)) ∧
 a ++
 [(List.getD (styles (atL x.fst.snd.fst) (0 : Int) x.snd.fst.fst)
 (Int.toNat a_1) (Ty.dflt t3),
 (1 : Int), ())] =
 a ++
 [(List.getD (styles (atL x.fst.snd.fst) (0 : Int) x.snd.fst.fst)
 (Int.toNat a_1) (Ty.dflt t3),
 (1 : Int), ())] ∧
 True) ∧
 Z
 (a ++
 [(List.getD (styles (atL x.fst.snd.fst) (0 : Int) x.snd.fst.fst)
 (Int.toNat a_1) (Ty.dflt t3),
 (1 : Int), ())],
 IntKind.wrap IntKind.i64 (a_1 + (1 : Int)), ()) ∧
 μ
 (a ++
 [(List.getD (styles (atL x.fst.snd.fst) (0 : Int) x.snd.fst.fst)
 (Int.toNat a_1) (Ty.dflt t3),
 (1 : Int), ())],
 IntKind.wrap IntKind.i64 (a_1 + (1 : Int)), ()) <
 μ (a, a_1, ()))) ∧
 (decide (IntKind.wrap IntKind.i64 ((↑(List.length a) : Int) - (1 : Int)) ≥ (0 : Int)) =
 false →
 (List.length a +
 List.length
 [(List.getD (styles (atL x.fst.snd.fst) (0 : Int) x.snd.fst.fst) (Int.toNat a_1)
 (Ty.dflt t3),
 (1 : Int), ())]) *
 (16 : Nat) ≤
 (140737488355328 : Nat) ∧
 List.length a +
 List.length
 [(List.getD (styles (atL x.fst.snd.fst) (0 : Int) x.snd.fst.fst) (Int.toNat a_1)
 (Ty.dflt t3),
 (1 : Int), ())] ≤
 maxLen ∧
 ((IntKind.wrap IntKind.i64 (a_1 + (1 : Int)) =
 IntKind.wrap IntKind.i64 (a_1 + (1 : Int)) ∧
 True ∧
 styles (atL x.fst.snd.fst) (0 : Int) x.snd.fst.fst =
 styles (atL x.fst.snd.fst) (0 : Int) x.snd.fst.fst ∧
 (↑(List.length (styles (atL x.fst.snd.fst) (0 : Int) x.snd.fst.fst)) : Int) =
 (↑(List.length (styles (atL x.fst.snd.fst) (0 : Int) x.snd.fst.fst)) :
 Int)) ∧
 a ++
 [(List.getD (styles (atL x.fst.snd.fst) (0 : Int) x.snd.fst.fst)
 (Int.toNat a_1) (Ty.dflt t3),
 (1 : Int), ())] =
 a ++
 [(List.getD (styles (atL x.fst.snd.fst) (0 : Int) x.snd.fst.fst)
 (Int.toNat a_1) (Ty.dflt t3),
 (1 : Int), ())] ∧
 True) ∧
 Z
 (a ++
 [(List.getD (styles (atL x.fst.snd.fst) (0 : Int) x.snd.fst.fst)
 (Int.toNat a_1) (Ty.dflt t3),
 (1 : Int), ())],
 IntKind.wrap IntKind.i64 (a_1 + (1 : Int)), ()) ∧
 μ
 (a ++
 [(List.getD (styles (atL x.fst.snd.fst) (0 : Int) x.snd.fst.fst)
 (Int.toNat a_1) (Ty.dflt t3),
 (1 : Int), ())],
 IntKind.wrap IntKind.i64 (a_1 + (1 : Int)), ()) <
 μ (a, a_1, ()))) ∧
 (decide (a_1 < (↑(List.length (styles (atL x.fst.snd.fst) (0 : Int) x.snd.fst.fst)) : Int)) =
 false →
 a = runsL (styles (atL x.fst.snd.fst) (0 : Int) x.snd.fst.fst))
theorem vcEq19 : fnVC E19 Try.f19 (bodyOf Try.f19) cRefPaint = vc19 := by kernel_rfl
/- fn 21 -/
def hs21 : List (Nat × Nat × Hint) := [(0, 6, ⟨[.slot 5 t3, .slot 6 t3, .slot 21 t3], [1, 2, 4, 19, 20], [2, 4], []⟩),
  (0, 15, ⟨[.rowS 9 900000009 t64 64, .slot 58 t3], [1, 4, 5, 56, 57], [4], []⟩)]
def nm21 : List Nat := [3000000025, 3000000026]
noncomputable def E21 : Env := env tab [(35, cRefNormal), (36, cRefMap), (10, cRefNew)] [] noGl hs21 nm21
def vc21 : Prop :=
 ∀
 (x :
 (Int × List (Int × Int × Int × Int × Unit) × Int × Unit) ×
 List Chg × Unit),
 List.length x.fst.snd.fst ≤ (200 : Nat) ∧
 (∀ (m : Ty.den t64), m ∈ x.fst.snd.fst → okMark x.fst.fst m = true) ∧
 (0 : Int) ≤ x.fst.fst ∧ x.fst.fst ≤ (1099511627776 : Int) ∧ List.length x.snd.fst ≤ (1000 : Nat) →
 List.length x.snd.fst ≤ maxLen ∧
 ((!normal x.snd.fst) = true → ((0 : Int), [], (4 : Int), ()) = shiftW x.fst x.snd.fst) ∧
 ((!normal x.snd.fst) = false →
 (((0 : Int) = (0 : Int) ∧
 (0 : Int) = (0 : Int) ∧
 x.fst.fst = x.fst.fst ∧
 x.snd.fst = x.snd.fst ∧
 True ∧
 True ∧
 x.snd.fst = x.snd.fst ∧ (↑(List.length x.snd.fst) : Int) = (↑(List.length x.snd.fst) : Int)) ∧
 (x.fst.fst = x.fst.fst ∧ x.fst.snd.fst = x.fst.snd.fst ∧ x.fst.snd.snd.fst = x.fst.snd.snd.fst) ∧
 (0 : Int) = (0 : Int) ∧
 Value.slice none (0 : Nat) (0 : Nat) = Value.slice none (0 : Nat) (0 : Nat) ∧ (0 : Int) = (0 : Int)) ∧
 ∃ (Z : Int × Int × Int × Unit → Prop),
 ∃ (μ : Int × Int × Int × Unit → Nat),
 Z (x.fst.fst, (0 : Int), (0 : Int), ()) ∧
 ∀ (a a_1 a_2 : Int),
 Z (a, a_1, a_2, ()) →
 (decide (a_2 < (↑(List.length x.snd.fst) : Int)) = true →
 ((0 : Int) ≤ a_2 ∧ a_2 < (↑(List.length x.snd.fst) : Int)) ∧
 ((IntKind.wrap IntKind.i64 (a_2 + (1 : Int)) = IntKind.wrap IntKind.i64 (a_2 + (1 : Int)) ∧
 (List.getD x.snd.fst (Int.toNat a_2) (Ty.dflt t83)).fst.snd.fst =
 (List.getD x.snd.fst (Int.toNat a_2) (Ty.dflt t83)).fst.snd.fst ∧
 IntKind.wrap IntKind.i64
 (IntKind.wrap IntKind.i64
 (a +
 IntKind.wrap IntKind.i64
 ((List.getD x.snd.fst (Int.toNat a_2) (Ty.dflt t83)).snd.fst.snd.fst -
 (List.getD x.snd.fst (Int.toNat a_2) (Ty.dflt t83)).snd.fst.fst)) -
 IntKind.wrap IntKind.i64
 ((List.getD x.snd.fst (Int.toNat a_2) (Ty.dflt t83)).fst.snd.fst -
 (List.getD x.snd.fst (Int.toNat a_2) (Ty.dflt t83)).fst.fst)) =
 IntKind.wrap IntKind.i64
 (IntKind.wrap IntKind.i64
 (a +
 IntKind.wrap IntKind.i64
 ((List.getD x.snd.fst (Int.toNat a_2) (Ty.dflt t83)).snd.fst.snd.fst -
 (List.getD x.snd.fst (Int.toNat a_2) (Ty.dflt t83)).snd.fst.fst)) -
 IntKind.wrap IntKind.i64
 ((List.getD x.snd.fst (Int.toNat a_2) (Ty.dflt t83)).fst.snd.fst -
 (List.getD x.snd.fst (Int.toNat a_2) (Ty.dflt t83)).fst.fst)) ∧
 x.snd.fst = x.snd.fst ∧
 True ∧
 True ∧
 x.snd.fst = x.snd.fst ∧
 (↑(List.length x.snd.fst) : Int) = (↑(List.length x.snd.fst) : Int)) ∧
 (x.fst.fst = x.fst.fst ∧
 x.fst.snd.fst = x.fst.snd.fst ∧ x.fst.snd.snd.fst = x.fst.snd.snd.fst) ∧
 (0 : Int) = (0 : Int) ∧
 Value.slice none (0 : Nat) (0 : Nat) = Value.slice none (0 : Nat) (0 : Nat) ∧
 (0 : Int) = (0 : Int)) ∧
 Z
 (IntKind.wrap IntKind.i64
 (IntKind.wrap IntKind.i64
 (a +
 IntKind.wrap IntKind.i64
 ((List.getD x.snd.fst (Int.toNat a_2) (Ty.dflt t83)).snd.fst.snd.fst -
 (List.getD x.snd.fst (Int.toNat a_2) (Ty.dflt t83)).snd.fst.fst)) -
 IntKind.wrap IntKind.i64
 ((List.getD x.snd.fst (Int.toNat a_2) (Ty.dflt t83)).fst.snd.fst -
 (List.getD x.snd.fst (Int.toNat a_2) (Ty.dflt t83)).fst.fst)),
 (List.getD x.snd.fst (Int.toNat a_2) (Ty.dflt t83)).fst.snd.fst,
 IntKind.wrap IntKind.i64 (a_2 + (1 : Int)), ()) ∧
 μ
 (IntKind.wrap IntKind.i64
 (IntKind.wrap IntKind.i64
 (a +
 IntKind.wrap IntKind.i64
 ((List.getD x.snd.fst (Int.toNat a_2) (Ty.dflt t83)).snd.fst.snd.fst -
 (List.getD x.snd.fst (Int.toNat a_2) (Ty.dflt t83)).snd.fst.fst)) -
 IntKind.wrap IntKind.i64
 ((List.getD x.snd.fst (Int.toNat a_2) (Ty.dflt t83)).fst.snd.fst -
 (List.getD x.snd.fst (Int.toNat a_2) (Ty.dflt t83)).fst.fst)),
 (List.getD x.snd.fst (Int.toNat a_2) (Ty.dflt t83)).fst.snd.fst,
 IntKind.wrap IntKind.i64 (a_2 + (1 : Int)), ()) <
 μ (a, a_1, a_2, ())) ∧
 (decide (a_2 < (↑(List.length x.snd.fst) : Int)) = false →
 (decide (a_1 > x.fst.fst) = true → ((0 : Int), [], (1 : Int), ()) = shiftW x.fst x.snd.fst) ∧
 (decide (a_1 > x.fst.fst) = false →
 (decide (a > (1099511627776 : Int)) = true →
 ((0 : Int), [], (1 : Int), ()) = shiftW x.fst x.snd.fst) ∧
 (decide (a > (1099511627776 : Int)) = false →
 (((0 : Int) = (0 : Int) ∧
 True ∧
 x.snd.fst = x.snd.fst ∧
 True ∧
 a = a ∧
 x.fst.snd.fst = x.fst.snd.fst ∧
 (↑(List.length x.fst.snd.fst) : Int) =
 (↑(List.length x.fst.snd.fst) : Int)) ∧
 ((0 : Int) = (0 : Int) ∧
 Value.slice none (0 : Nat) (0 : Nat) = Value.slice none (0 : Nat) (0 : Nat) ∧
 (0 : Int) = (0 : Int)) ∧
 True ∧ True) ∧
 ∃ (Z : List (Int × Int × Int × Int × Unit) × Int × Unit → Prop),
 ∃ (μ : List (Int × Int × Int × Int × Unit) × Int × Unit → Nat),
 Z ([], (0 : Int), ()) ∧
 ∀ (a_7 : List (Int × Int × Int × Int × Unit)) (a_8 : Int),
 Z (a_7, a_8, ()) →
 (decide (a_8 < (↑(List.length x.fst.snd.fst) : Int)) = true →
 ((0 : Int) ≤ a_8 ∧ a_8 < (↑(List.length x.fst.snd.fst) : Int)) ∧
 (List.length x.snd.fst ≤ maxLen ∧
 normal x.snd.fst = true ∧
 (0 : Int) ≤
 (List.getD x.fst.snd.fst (Int.toNat a_8)
 (Ty.dflt t64)).fst ∧
 (List.getD x.fst.snd.fst (Int.toNat a_8)
 (Ty.dflt t64)).fst ≤
 (1099511627776 : Int)) ∧
 (List.length x.snd.fst ≤ maxLen ∧
 normal x.snd.fst = true ∧
 (0 : Int) ≤
 (List.getD x.fst.snd.fst (Int.toNat a_8)
 (Ty.dflt t64)).snd.fst ∧
 (List.getD x.fst.snd.fst (Int.toNat a_8)
 (Ty.dflt t64)).snd.fst ≤
 (1099511627776 : Int)) ∧
 (decide
 (refMap
 (List.getD x.fst.snd.fst (Int.toNat a_8)
 (Ty.dflt t64)).fst
 (1 : Int) x.snd.fst (0 : Int) <
 refMap
 (List.getD x.fst.snd.fst (Int.toNat a_8)
 (Ty.dflt t64)).snd.fst
 (0 : Int) x.snd.fst (0 : Int)) =
 true →
 (List.length a_7 +
 List.length
 [(refMap
 (List.getD x.fst.snd.fst (Int.toNat a_8)
 (Ty.dflt t64)).fst
 (1 : Int) x.snd.fst (0 : Int),
 refMap
 (List.getD x.fst.snd.fst (Int.toNat a_8)
 (Ty.dflt t64)).snd.fst
 (0 : Int) x.snd.fst (0 : Int),
 (List.getD x.fst.snd.fst (Int.toNat a_8)
 (Ty.dflt t64)).snd.snd)]) *
 (32 : Nat) ≤
 (140737488355328 : Nat) ∧
 List.length a_7 +
 List.length
 [(refMap
 (List.getD x.fst.snd.fst (Int.toNat a_8)
 (Ty.dflt t64)).fst
 (1 : Int) x.snd.fst (0 : Int),
 refMap
 (List.getD x.fst.snd.fst (Int.toNat a_8)
 (Ty.dflt t64)).snd.fst
 (0 : Int) x.snd.fst (0 : Int),
 (List.getD x.fst.snd.fst (Int.toNat a_8)
 (Ty.dflt t64)).snd.snd)] ≤
 maxLen ∧
 ((IntKind.wrap IntKind.i64 (a_8 + (1 : Int)) =
 IntKind.wrap IntKind.i64 (a_8 + (1 : Int)) ∧
 True ∧
 x.snd.fst = x.snd.fst ∧
 True ∧
 a = a ∧
 x.fst.snd.fst = x.fst.snd.fst ∧
 (↑(List.length x.fst.snd.fst) : Int) =
 (↑(List.length x.fst.snd.fst) :
 Int)) ∧
 ((0 : Int) = (0 : Int) ∧
 Value.slice none (0 : Nat) (0 : Nat) =
 Value.slice none (0 : Nat) (0 : Nat) ∧
 (0 : Int) = (0 : Int)) ∧
 a_7 ++
 [(refMap
 (List.getD x.fst.snd.fst
 (Int.toNat a_8) (Ty.dflt t64)).fst
 (1 : Int) x.snd.fst (0 : Int),
 refMap
 (List.getD x.fst.snd.fst
 (Int.toNat a_8)
 (Ty.dflt t64)).snd.fst
 (0 : Int) x.snd.fst (0 : Int),
 (List.getD x.fst.snd.fst (Int.toNat a_8)
 (Ty.dflt t64)).snd.snd)] =
 a_7 ++
 [(refMap
 (List.getD x.fst.snd.fst
 (Int.toNat a_8) (Ty.dflt t64)).fst
 (1 : Int) x.snd.fst (0 : Int),
 refMap
 (List.getD x.fst.snd.fst
 (Int.toNat a_8)
 (Ty.dflt t64)).snd.fst
 (0 : Int) x.snd.fst (0 : Int),
 (List.getD x.fst.snd.fst (Int.toNat a_8)
 (Ty.dflt t64)).snd.snd)] ∧
 True) ∧
 Z
 (a_7 ++
 [(refMap
 (List.getD x.fst.snd.fst (Int.toNat a_8)
 (Ty.dflt t64)).fst
 (1 : Int) x.snd.fst (0 : Int),
 refMap
 (List.getD x.fst.snd.fst (Int.toNat a_8)
 (Ty.dflt t64)).snd.fst
 (0 : Int) x.snd.fst (0 : Int),
 (List.getD x.fst.snd.fst (Int.toNat a_8)
 (Ty.dflt t64)).snd.snd)],
 IntKind.wrap IntKind.i64 (a_8 + (1 : Int)),
 ()) ∧
 μ
 (a_7 ++
 [(refMap
 (List.getD x.fst.snd.fst
 (Int.toNat a_8) (Ty.dflt t64)).fst
 (1 : Int) x.snd.fst (0 : Int),
 refMap
 (List.getD x.fst.snd.fst
 (Int.toNat a_8)
 (Ty.dflt t64)).snd.fst
 (0 : Int) x.snd.fst (0 : Int),
 (List.getD x.fst.snd.fst (Int.toNat a_8)
 (Ty.dflt t64)).snd.snd)],
 IntKind.wrap IntKind.i64 (a_8 + (1 : Int)),
 ()) <
 μ (a_7, a_8, ())) ∧
 (decide
 (refMap
 (List.getD x.fst.snd.fst (Int.toNat a_8)
 (Ty.dflt t64)).fst
 (1 : Int) x.snd.fst (0 : Int) <
 refMap
 (List.getD x.fst.snd.fst (Int.toNat a_8)
 (Ty.dflt t64)).snd.fst
 (0 : Int) x.snd.fst (0 : Int)) =
 false →
 ((IntKind.wrap IntKind.i64 (a_8 + (1 : Int)) =
 IntKind.wrap IntKind.i64 (a_8 + (1 : Int)) ∧
 True ∧
 x.snd.fst = x.snd.fst ∧
 True ∧
 a = a ∧
 x.fst.snd.fst = x.fst.snd.fst ∧
 (↑(List.length x.fst.snd.fst) : Int) =
 (↑(List.length x.fst.snd.fst) : Int)) ∧
 ((0 : Int) = (0 : Int) ∧
 Value.slice none (0 : Nat) (0 : Nat) =
 Value.slice none (0 : Nat) (0 : Nat) ∧
 (0 : Int) = (0 : Int)) ∧
 a_7 = a_7 ∧ True) ∧
 Z (a_7, IntKind.wrap IntKind.i64 (a_8 + (1 : Int)), ()) ∧
 μ
 (a_7, IntKind.wrap IntKind.i64 (a_8 + (1 : Int)),
 ()) <
 μ (a_7, a_8, ()))) ∧
 (decide (a_8 < (↑(List.length x.fst.snd.fst) : Int)) = false →
 List.length a_7 ≤ maxLen ∧ newW a a_7 = shiftW x.fst x.snd.fst)))))
theorem vcEq21 : fnVC E21 Try.f21 (bodyOf Try.f21) cRefShift = vc21 := by kernel_rfl
/- fn 22 -/
def hs22 : List (Nat × Nat × Hint) := [(0, 3, ⟨[.rowS 3 900000003 t83 83, .slot 8 t3], [6, 7], [], []⟩)]
def nm22 : List Nat := [3000000025, 3000000026]
noncomputable def E22 : Env := env tab [] [] noGl hs22 nm22
def vc22 : Prop :=
 ∀ (x : List Chg × Unit),
 List.length x.fst ≤ (1000000000 : Nat) →
 (((0 : Int) = (0 : Int) ∧ True ∧ x.fst = x.fst ∧ (↑(List.length x.fst) : Int) = (↑(List.length x.fst) : Int)) ∧
 True ∧ True) ∧
 ∃ (Z : List Chg × Int × Unit → Prop),
 ∃ (μ : List Chg × Int × Unit → Nat),
 Z ([], (0 : Int), ()) ∧
 ∀ (a : List Chg) (a_1 : Int),
 Z (a, a_1, ()) →
 (decide (a_1 < (↑(List.length x.fst) : Int)) = true →
 ((0 : Int) ≤ a_1 ∧ a_1 < (↑(List.length x.fst) : Int)) ∧
 (List.length a + List.length [List.getD x.fst (Int.toNat a_1) (Ty.dflt t76)]) * (32 : Nat) ≤
 (140737488355328 : Nat) ∧
 List.length a + List.length [List.getD x.fst (Int.toNat a_1) (Ty.dflt t76)] ≤ maxLen ∧
 ((IntKind.wrap IntKind.i64 (a_1 + (1 : Int)) = IntKind.wrap IntKind.i64 (a_1 + (1 : Int)) ∧
 True ∧ x.fst = x.fst ∧ (↑(List.length x.fst) : Int) = (↑(List.length x.fst) : Int)) ∧
 a ++ [List.getD x.fst (Int.toNat a_1) (Ty.dflt t76)] =
 a ++ [List.getD x.fst (Int.toNat a_1) (Ty.dflt t76)] ∧
 True) ∧
 Z
 (a ++ [List.getD x.fst (Int.toNat a_1) (Ty.dflt t76)],
 IntKind.wrap IntKind.i64 (a_1 + (1 : Int)), ()) ∧
 μ
 (a ++ [List.getD x.fst (Int.toNat a_1) (Ty.dflt t76)],
 IntKind.wrap IntKind.i64 (a_1 + (1 : Int)), ()) <
 μ (a, a_1, ())) ∧
 (decide (a_1 < (↑(List.length x.fst) : Int)) = false → a = x.fst)
theorem vcEq22 : fnVC E22 Try.f22 (bodyOf Try.f22) cChanges = vc22 := by kernel_rfl
/- fn 23 -/
def hs23 : List (Nat × Nat × Hint) := []
def nm23 : List Nat := [3000000025, 3000000026]
noncomputable def E23 : Env := env tab [(24, cClone)] [] noGl hs23 nm23
def vc23 : Prop :=
 ∀ (x : Option (Int × List (Int × Int × Int × Int × Unit) × Unit) × Unit),
 List.length (allM x.fst) ≤ (10000 : Nat) →
 (Option.isNone x.fst = true → [] = allM x.fst) ∧
 (Option.isNone x.fst = false →
 Option.isSome x.fst = true ∧
 List.length (List.getD (optL x.fst) (0 : Nat) (Ty.dflt t63)).snd.fst ≤ (10000 : Nat) ∧
 (List.getD (optL x.fst) (0 : Nat) (Ty.dflt t63)).snd.fst = allM x.fst)
theorem vcEq23 : fnVC E23 Try.f23 (bodyOf Try.f23) cAll = vc23 := by kernel_rfl
/- fn 24 -/
def hs24 : List (Nat × Nat × Hint) := []
def nm24 : List Nat := [1000000005, 3000000025, 3000000026]
noncomputable def E24 : Env := env tab [] [] noGl hs24 nm24
def vc24 : Prop :=
 ∀ (x : List (Int × Int × Int × Int × Unit) × Unit),
 List.length x.fst ≤ (10000 : Nat) →
 ∀ (c : Bool),
 (c = true → List.length x.fst = (0 : Nat)) →
 (c = true → [] = x.fst) ∧
 (c = false →
 ((0 : Nat) + List.length x.fst) * (32 : Nat) ≤ (140737488355328 : Nat) ∧
 (0 : Nat) + List.length x.fst ≤ maxLen ∧ [] ++ x.fst = x.fst)
theorem vcEq24 : fnVC E24 Try.f24 (bodyOf Try.f24) cClone = vc24 := by kernel_rfl
/- fn 29 -/
def hs29 : List (Nat × Nat × Hint) := [(0, 3, ⟨[.rowS 5 900000005 t3 3, .slot 13 t3], [2, 3, 11, 12], [2, 3], []⟩),
  (0, 6, ⟨[.slot 8 t3], [2, 3, 5, 7, 11, 12, 13], [2, 3, 7], [60, 900000005]⟩)]
def nm29 : List Nat := [3000000025, 3000000026]
noncomputable def E29 : Env := env tab [(14, cRefAt)] [] noGl hs29 nm29
def vc29 : Prop :=
 ∀
 (x :
 (Int × List (Int × Int × Int × Int × Unit) × Int × Unit) ×
 (List (Int × Int × Int × Int × Unit) × Int × Int × Int × Bool × Bool × Int × Unit) × Unit),
 List.length x.fst.snd.fst ≤ (10000 : Nat) ∧ List.length x.snd.fst.fst ≤ (10000 : Nat) →
 (((0 : Int) = (0 : Int) ∧
 True ∧
 True ∧
 True ∧
 x.snd.fst.fst = x.snd.fst.fst ∧
 (↑(List.length x.snd.fst.fst) : Int) = (↑(List.length x.snd.fst.fst) : Int)) ∧
 ((x.fst.fst = x.fst.fst ∧ x.fst.snd.fst = x.fst.snd.fst ∧ x.fst.snd.snd.fst = x.fst.snd.snd.fst) ∧
 x.snd.fst.fst = x.snd.fst.fst ∧
 x.snd.fst.snd.fst = x.snd.fst.snd.fst ∧
 x.snd.fst.snd.snd.fst = x.snd.fst.snd.snd.fst ∧
 x.snd.fst.snd.snd.snd.fst = x.snd.fst.snd.snd.snd.fst ∧
 x.snd.fst.snd.snd.snd.snd.fst = x.snd.fst.snd.snd.snd.snd.fst ∧
 x.snd.fst.snd.snd.snd.snd.snd.fst = x.snd.fst.snd.snd.snd.snd.snd.fst ∧
 x.snd.fst.snd.snd.snd.snd.snd.snd.fst = x.snd.fst.snd.snd.snd.snd.snd.snd.fst) ∧
 True ∧ True) ∧
 ∃ (Z : List Int × Int × Unit → Prop),
 ∃ (μ : List Int × Int × Unit → Nat),
 Z ([], (0 : Int), ()) ∧
 ∀ (a : List Int) (a_1 : Int),
 Z (a, a_1, ()) →
 (decide (a_1 < (↑(List.length x.snd.fst.fst) : Int)) = true →
 ((0 : Int) ≤ a_1 ∧ a_1 < (↑(List.length x.snd.fst.fst) : Int)) ∧
 ((a_1 = a_1 ∧
 True ∧
 True ∧
 True ∧
 True ∧
 x.snd.fst.fst = x.snd.fst.fst ∧
 (↑(List.length x.snd.fst.fst) : Int) = (↑(List.length x.snd.fst.fst) : Int) ∧
 a_1 = a_1) ∧
 ((x.fst.fst = x.fst.fst ∧
 x.fst.snd.fst = x.fst.snd.fst ∧ x.fst.snd.snd.fst = x.fst.snd.snd.fst) ∧
 (x.snd.fst.fst = x.snd.fst.fst ∧
 x.snd.fst.snd.fst = x.snd.fst.snd.fst ∧
 x.snd.fst.snd.snd.fst = x.snd.fst.snd.snd.fst ∧
 x.snd.fst.snd.snd.snd.fst = x.snd.fst.snd.snd.snd.fst ∧
 x.snd.fst.snd.snd.snd.snd.fst = x.snd.fst.snd.snd.snd.snd.fst ∧
 x.snd.fst.snd.snd.snd.snd.snd.fst = x.snd.fst.snd.snd.snd.snd.snd.fst ∧
 x.snd.fst.snd.snd.snd.snd.snd.snd.fst =
 x.snd.fst.snd.snd.snd.snd.snd.snd.fst) ∧
 (List.getD x.snd.fst.fst (Int.toNat a_1) (Ty.dflt t68)).fst =
 (List.getD x.snd.fst.fst (Int.toNat a_1) (Ty.dflt t68)).fst ∧
 (List.getD x.snd.fst.fst (Int.toNat a_1) (Ty.dflt t68)).snd.fst =
 (List.getD x.snd.fst.fst (Int.toNat a_1) (Ty.dflt t68)).snd.fst ∧
 (List.getD x.snd.fst.fst (Int.toNat a_1) (Ty.dflt t68)).snd.snd.fst =
 (List.getD x.snd.fst.fst (Int.toNat a_1) (Ty.dflt t68)).snd.snd.fst ∧
 (List.getD x.snd.fst.fst (Int.toNat a_1) (Ty.dflt t68)).snd.snd.snd.fst =
 (List.getD x.snd.fst.fst (Int.toNat a_1) (Ty.dflt t68)).snd.snd.snd.fst) ∧
 a = a ∧ True) ∧
 ∃ (Z_1 : Int × Unit → Prop),
 ∃ (μ_1 : Int × Unit → Nat),
 Z_1 (a_1, ()) ∧
 ∀ (a_4 : Int),
 Z_1 (a_4, ()) →
 (decide (a_4 > (0 : Int)) = true →
 ((0 : Int) ≤ a_4 ∧ a_4 < (↑(List.length x.snd.fst.fst) : Int)) ∧
 (((List.getD x.snd.fst.fst (Int.toNat a_4) (Ty.dflt t68)).snd.fst ==
 (4 : Int)) =
 true →
 ((IntKind.wrap IntKind.i64 (a_4 - (1 : Int)) =
 IntKind.wrap IntKind.i64 (a_4 - (1 : Int)) ∧
 True ∧
 True ∧
 True ∧
 True ∧
 x.snd.fst.fst = x.snd.fst.fst ∧
 (↑(List.length x.snd.fst.fst) : Int) =
 (↑(List.length x.snd.fst.fst) : Int) ∧
 a_1 = a_1) ∧
 ((x.fst.fst = x.fst.fst ∧
 x.fst.snd.fst = x.fst.snd.fst ∧
 x.fst.snd.snd.fst = x.fst.snd.snd.fst) ∧
 (x.snd.fst.fst = x.snd.fst.fst ∧
 x.snd.fst.snd.fst = x.snd.fst.snd.fst ∧
 x.snd.fst.snd.snd.fst = x.snd.fst.snd.snd.fst ∧
 x.snd.fst.snd.snd.snd.fst = x.snd.fst.snd.snd.snd.fst ∧
 x.snd.fst.snd.snd.snd.snd.fst =
 x.snd.fst.snd.snd.snd.snd.fst ∧
 x.snd.fst.snd.snd.snd.snd.snd.fst =
 x.snd.fst.snd.snd.snd.snd.snd.fst ∧
 x.snd.fst.snd.snd.snd.snd.snd.snd.fst =
 x.snd.fst.snd.snd.snd.snd.snd.snd.fst) ∧
 (List.getD x.snd.fst.fst (Int.toNat a_1) (Ty.dflt t68)).fst =
 (List.getD x.snd.fst.fst (Int.toNat a_1) (Ty.dflt t68)).fst ∧
 (List.getD x.snd.fst.fst (Int.toNat a_1)
 (Ty.dflt t68)).snd.fst =
 (List.getD x.snd.fst.fst (Int.toNat a_1)
 (Ty.dflt t68)).snd.fst ∧
 (List.getD x.snd.fst.fst (Int.toNat a_1)
 (Ty.dflt t68)).snd.snd.fst =
 (List.getD x.snd.fst.fst (Int.toNat a_1)
 (Ty.dflt t68)).snd.snd.fst ∧
 (List.getD x.snd.fst.fst (Int.toNat a_1)
 (Ty.dflt t68)).snd.snd.snd.fst =
 (List.getD x.snd.fst.fst (Int.toNat a_1)
 (Ty.dflt t68)).snd.snd.snd.fst) ∧
 a = a ∧ True) ∧
 Z_1 (IntKind.wrap IntKind.i64 (a_4 - (1 : Int)), ()) ∧
 μ_1 (IntKind.wrap IntKind.i64 (a_4 - (1 : Int)), ()) < μ_1 (a_4, ())) ∧
 (((List.getD x.snd.fst.fst (Int.toNat a_4) (Ty.dflt t68)).snd.fst ==
 (4 : Int)) =
 false →
 (((List.getD x.snd.fst.fst (Int.toNat a_1) (Ty.dflt t68)).snd.fst ==
 (1 : Int)) =
 true →
 ((0 : Int) ≤ a_4 ∧ a_4 < (↑(List.length x.snd.fst.fst) : Int)) ∧
 List.length x.fst.snd.fst ≤ (10000 : Nat) ∧
 (List.length a +
 List.length
 [atL x.fst.snd.fst
 (List.getD x.snd.fst.fst (Int.toNat a_4)
 (Ty.dflt t68)).snd.snd.snd.fst]) *
 (8 : Nat) ≤
 (140737488355328 : Nat) ∧
 List.length a +
 List.length
 [atL x.fst.snd.fst
 (List.getD x.snd.fst.fst (Int.toNat a_4)
 (Ty.dflt t68)).snd.snd.snd.fst] ≤
 maxLen ∧
 ((IntKind.wrap IntKind.i64 (a_1 + (1 : Int)) =
 IntKind.wrap IntKind.i64 (a_1 + (1 : Int)) ∧
 True ∧
 True ∧
 True ∧
 x.snd.fst.fst = x.snd.fst.fst ∧
 (↑(List.length x.snd.fst.fst) : Int) =
 (↑(List.length x.snd.fst.fst) : Int)) ∧
 ((x.fst.fst = x.fst.fst ∧
 x.fst.snd.fst = x.fst.snd.fst ∧
 x.fst.snd.snd.fst = x.fst.snd.snd.fst) ∧
 x.snd.fst.fst = x.snd.fst.fst ∧
 x.snd.fst.snd.fst = x.snd.fst.snd.fst ∧
 x.snd.fst.snd.snd.fst = x.snd.fst.snd.snd.fst ∧
 x.snd.fst.snd.snd.snd.fst =
 x.snd.fst.snd.snd.snd.fst ∧
 x.snd.fst.snd.snd.snd.snd.fst =
 x.snd.fst.snd.snd.snd.snd.fst ∧
 x.snd.fst.snd.snd.snd.snd.snd.fst =
 x.snd.fst.snd.snd.snd.snd.snd.fst ∧
 x.snd.fst.snd.snd.snd.snd.snd.snd.fst =
 x.snd.fst.snd.snd.snd.snd.snd.snd.fst) ∧
 a ++
 [atL x.fst.snd.fst
 (List.getD x.snd.fst.fst (Int.toNat a_4)
 (Ty.dflt t68)).snd.snd.snd.fst] =
 a ++
 [atL x.fst.snd.fst
 (List.getD x.snd.fst.fst (Int.toNat a_4)
 (Ty.dflt t68)).snd.snd.snd.fst] ∧
 True) ∧
 Z
 (a ++
 [atL x.fst.snd.fst
 (List.getD x.snd.fst.fst (Int.toNat a_4)
 (Ty.dflt t68)).snd.snd.snd.fst],
 IntKind.wrap IntKind.i64 (a_1 + (1 : Int)), ()) ∧
 μ
 (a ++
 [atL x.fst.snd.fst
 (List.getD x.snd.fst.fst (Int.toNat a_4)
 (Ty.dflt t68)).snd.snd.snd.fst],
 IntKind.wrap IntKind.i64 (a_1 + (1 : Int)), ()) <
 μ (a, a_1, ())) ∧
 (((List.getD x.snd.fst.fst (Int.toNat a_1) (Ty.dflt t68)).snd.fst ==
 (1 : Int)) =
 false →
 (((List.getD x.snd.fst.fst (Int.toNat a_1) (Ty.dflt t68)).snd.fst ==
 (4 : Int)) =
 true →
 ((0 : Int) ≤ a_4 ∧ a_4 < (↑(List.length x.snd.fst.fst) : Int)) ∧
 (((List.getD x.snd.fst.fst (Int.toNat a_4)
 (Ty.dflt t68)).snd.fst ==
 (1 : Int)) =
 true →
 ((0 : Int) ≤ a_4 ∧
 a_4 < (↑(List.length x.snd.fst.fst) : Int)) ∧
 List.length x.fst.snd.fst ≤ (10000 : Nat) ∧
 (List.length a +
 List.length
 [atL x.fst.snd.fst
 (List.getD x.snd.fst.fst (Int.toNat a_4)
 (Ty.dflt t68)).snd.snd.snd.fst]) *
 (8 : Nat) ≤
 (140737488355328 : Nat) ∧
 List.length a +
 List.length
 [atL x.fst.snd.fst
 (List.getD x.snd.fst.fst (Int.toNat a_4)
 (Ty.dflt t68)).snd.snd.snd.fst] ≤
 maxLen ∧
 ((IntKind.wrap IntKind.i64 (a_1 + (1 : Int)) =
 IntKind.wrap IntKind.i64 (a_1 + (1 : Int)) ∧
 True ∧
 True ∧
 True ∧
 x.snd.fst.fst = x.snd.fst.fst ∧
 (↑(List.length x.snd.fst.fst) : Int) =
 (↑(List.length x.snd.fst.fst) :
 Int)) ∧
 ((x.fst.fst = x.fst.fst ∧
 x.fst.snd.fst = x.fst.snd.fst ∧
 x.fst.snd.snd.fst = x.fst.snd.snd.fst) ∧
 x.snd.fst.fst = x.snd.fst.fst ∧
 x.snd.fst.snd.fst = x.snd.fst.snd.fst ∧
 x.snd.fst.snd.snd.fst =
 x.snd.fst.snd.snd.fst ∧
 x.snd.fst.snd.snd.snd.fst =
 x.snd.fst.snd.snd.snd.fst ∧
 x.snd.fst.snd.snd.snd.snd.fst =
 x.snd.fst.snd.snd.snd.snd.fst ∧
 x.snd.fst.snd.snd.snd.snd.snd.fst =
 x.snd.fst.snd.snd.snd.snd.snd.fst ∧
 x.snd.fst.snd.snd.snd.snd.snd.snd.fst =
 x.snd.fst.snd.snd.snd.snd.snd.snd.fst) ∧
 a ++
 [atL x.fst.snd.fst
 (List.getD x.snd.fst.fst
 (Int.toNat a_4)
 (Ty.dflt
 t68)).snd.snd.snd.fst] =
 a ++
 [atL x.fst.snd.fst
 (List.getD x.snd.fst.fst
 (Int.toNat a_4)
 (Ty.dflt
 t68)).snd.snd.snd.fst] ∧
 True) ∧
 Z
 (a ++
 [atL x.fst.snd.fst
 (List.getD x.snd.fst.fst (Int.toNat a_4)
 (Ty.dflt
 t68)).snd.snd.snd.fst],
 IntKind.wrap IntKind.i64 (a_1 + (1 : Int)),
 ()) ∧
 μ
 (a ++
 [atL x.fst.snd.fst
 (List.getD x.snd.fst.fst
 (Int.toNat a_4)
 (Ty.dflt
 t68)).snd.snd.snd.fst],
 IntKind.wrap IntKind.i64 (a_1 + (1 : Int)),
 ()) <
 μ (a, a_1, ())) ∧
 (((List.getD x.snd.fst.fst (Int.toNat a_4)
 (Ty.dflt t68)).snd.fst ==
 (1 : Int)) =
 false →
 (List.length a + List.length [(0 : Int)]) * (8 : Nat) ≤
 (140737488355328 : Nat) ∧
 List.length a + List.length [(0 : Int)] ≤ maxLen ∧
 ((IntKind.wrap IntKind.i64 (a_1 + (1 : Int)) =
 IntKind.wrap IntKind.i64 (a_1 + (1 : Int)) ∧
 True ∧
 True ∧
 True ∧
 x.snd.fst.fst = x.snd.fst.fst ∧
 (↑(List.length x.snd.fst.fst) : Int) =
 (↑(List.length x.snd.fst.fst) : Int)) ∧
 ((x.fst.fst = x.fst.fst ∧
 x.fst.snd.fst = x.fst.snd.fst ∧
 x.fst.snd.snd.fst = x.fst.snd.snd.fst) ∧
 x.snd.fst.fst = x.snd.fst.fst ∧
 x.snd.fst.snd.fst = x.snd.fst.snd.fst ∧
 x.snd.fst.snd.snd.fst =
 x.snd.fst.snd.snd.fst ∧
 x.snd.fst.snd.snd.snd.fst =
 x.snd.fst.snd.snd.snd.fst ∧
 x.snd.fst.snd.snd.snd.snd.fst =
 x.snd.fst.snd.snd.snd.snd.fst ∧
 x.snd.fst.snd.snd.snd.snd.snd.fst =
 x.snd.fst.snd.snd.snd.snd.snd.fst ∧
 x.snd.fst.snd.snd.snd.snd.snd.snd.fst =
 x.snd.fst.snd.snd.snd.snd.snd.snd.fst) ∧
 a ++ [(0 : Int)] = a ++ [(0 : Int)] ∧ True) ∧
 Z
 (a ++ [(0 : Int)],
 IntKind.wrap IntKind.i64 (a_1 + (1 : Int)), ()) ∧
 μ
 (a ++ [(0 : Int)],
 IntKind.wrap IntKind.i64 (a_1 + (1 : Int)),
 ()) <
 μ (a, a_1, ()))) ∧
 (((List.getD x.snd.fst.fst (Int.toNat a_1) (Ty.dflt t68)).snd.fst ==
 (4 : Int)) =
 false →
 (List.length a + List.length [(0 : Int)]) * (8 : Nat) ≤
 (140737488355328 : Nat) ∧
 List.length a + List.length [(0 : Int)] ≤ maxLen ∧
 ((IntKind.wrap IntKind.i64 (a_1 + (1 : Int)) =
 IntKind.wrap IntKind.i64 (a_1 + (1 : Int)) ∧
 True ∧
 True ∧
 True ∧
 x.snd.fst.fst = x.snd.fst.fst ∧
 (↑(List.length x.snd.fst.fst) : Int) =
 (↑(List.length x.snd.fst.fst) : Int)) ∧
 ((x.fst.fst = x.fst.fst ∧
 x.fst.snd.fst = x.fst.snd.fst ∧
 x.fst.snd.snd.fst = x.fst.snd.snd.fst) ∧
 x.snd.fst.fst = x.snd.fst.fst ∧
 x.snd.fst.snd.fst = x.snd.fst.snd.fst ∧
 x.snd.fst.snd.snd.fst = x.snd.fst.snd.snd.fst ∧
 x.snd.fst.snd.snd.snd.fst =
 x.snd.fst.snd.snd.snd.fst ∧
 x.snd.fst.snd.snd.snd.snd.fst =
 x.snd.fst.snd.snd.snd.snd.fst ∧
 x.snd.fst.snd.snd.snd.snd.snd.fst =
 x.snd.fst.snd.snd.snd.snd.snd.fst ∧
 x.snd.fst.snd.snd.snd.snd.snd.snd.fst =
 x.snd.fst.snd.snd.snd.snd.snd.snd.fst) ∧
 a ++ [(0 : Int)] = a ++ [(0 : Int)] ∧ True) ∧
 Z
 (a ++ [(0 : Int)],
 IntKind.wrap IntKind.i64 (a_1 + (1 : Int)), ()) ∧
 μ
 (a ++ [(0 : Int)],
 IntKind.wrap IntKind.i64 (a_1 + (1 : Int)), ()) <
 μ (a, a_1, ()))))) ∧
 (decide (a_4 > (0 : Int)) = false →
 (((List.getD x.snd.fst.fst (Int.toNat a_1) (Ty.dflt t68)).snd.fst == (1 : Int)) =
 true →
 ((0 : Int) ≤ a_4 ∧ a_4 < (↑(List.length x.snd.fst.fst) : Int)) ∧
 List.length x.fst.snd.fst ≤ (10000 : Nat) ∧
 (List.length a +
 List.length
 [atL x.fst.snd.fst
 (List.getD x.snd.fst.fst (Int.toNat a_4)
 (Ty.dflt t68)).snd.snd.snd.fst]) *
 (8 : Nat) ≤
 (140737488355328 : Nat) ∧
 List.length a +
 List.length
 [atL x.fst.snd.fst
 (List.getD x.snd.fst.fst (Int.toNat a_4)
 (Ty.dflt t68)).snd.snd.snd.fst] ≤
 maxLen ∧
 ((IntKind.wrap IntKind.i64 (a_1 + (1 : Int)) =
 IntKind.wrap IntKind.i64 (a_1 + (1 : Int)) ∧
 True ∧
 True ∧
 True ∧
 x.snd.fst.fst = x.snd.fst.fst ∧
 (↑(List.length x.snd.fst.fst) : Int) =
 (↑(List.length x.snd.fst.fst) : Int)) ∧
 ((x.fst.fst = x.fst.fst ∧
 x.fst.snd.fst = x.fst.snd.fst ∧
 x.fst.snd.snd.fst = x.fst.snd.snd.fst) ∧
 x.snd.fst.fst = x.snd.fst.fst ∧
 x.snd.fst.snd.fst = x.snd.fst.snd.fst ∧
 x.snd.fst.snd.snd.fst = x.snd.fst.snd.snd.fst ∧
 x.snd.fst.snd.snd.snd.fst = x.snd.fst.snd.snd.snd.fst ∧
 x.snd.fst.snd.snd.snd.snd.fst =
 x.snd.fst.snd.snd.snd.snd.fst ∧
 x.snd.fst.snd.snd.snd.snd.snd.fst =
 x.snd.fst.snd.snd.snd.snd.snd.fst ∧
 x.snd.fst.snd.snd.snd.snd.snd.snd.fst =
 x.snd.fst.snd.snd.snd.snd.snd.snd.fst) ∧
 a ++
 [atL x.fst.snd.fst
 (List.getD x.snd.fst.fst (Int.toNat a_4)
 (Ty.dflt t68)).snd.snd.snd.fst] =
 a ++
 [atL x.fst.snd.fst
 (List.getD x.snd.fst.fst (Int.toNat a_4)
 (Ty.dflt t68)).snd.snd.snd.fst] ∧
 True) ∧
 Z
 (a ++
 [atL x.fst.snd.fst
 (List.getD x.snd.fst.fst (Int.toNat a_4)
 (Ty.dflt t68)).snd.snd.snd.fst],
 IntKind.wrap IntKind.i64 (a_1 + (1 : Int)), ()) ∧
 μ
 (a ++
 [atL x.fst.snd.fst
 (List.getD x.snd.fst.fst (Int.toNat a_4)
 (Ty.dflt t68)).snd.snd.snd.fst],
 IntKind.wrap IntKind.i64 (a_1 + (1 : Int)), ()) <
 μ (a, a_1, ())) ∧
 (((List.getD x.snd.fst.fst (Int.toNat a_1) (Ty.dflt t68)).snd.fst ==
 (1 : Int)) =
 false →
 (((List.getD x.snd.fst.fst (Int.toNat a_1) (Ty.dflt t68)).snd.fst ==
 (4 : Int)) =
 true →
 ((0 : Int) ≤ a_4 ∧ a_4 < (↑(List.length x.snd.fst.fst) : Int)) ∧
 (((List.getD x.snd.fst.fst (Int.toNat a_4) (Ty.dflt t68)).snd.fst ==
 (1 : Int)) =
 true →
 ((0 : Int) ≤ a_4 ∧ a_4 < (↑(List.length x.snd.fst.fst) : Int)) ∧
 List.length x.fst.snd.fst ≤ (10000 : Nat) ∧
 (List.length a +
 List.length
 [atL x.fst.snd.fst
 (List.getD x.snd.fst.fst (Int.toNat a_4)
 (Ty.dflt t68)).snd.snd.snd.fst]) *
 (8 : Nat) ≤
 (140737488355328 : Nat) ∧
 List.length a +
 List.length
 [atL x.fst.snd.fst
 (List.getD x.snd.fst.fst (Int.toNat a_4)
 (Ty.dflt t68)).snd.snd.snd.fst] ≤
 maxLen ∧
 ((IntKind.wrap IntKind.i64 (a_1 + (1 : Int)) =
 IntKind.wrap IntKind.i64 (a_1 + (1 : Int)) ∧
 True ∧
 True ∧
 True ∧
 x.snd.fst.fst = x.snd.fst.fst ∧
 (↑(List.length x.snd.fst.fst) : Int) =
 (↑(List.length x.snd.fst.fst) : Int)) ∧
 ((x.fst.fst = x.fst.fst ∧
 x.fst.snd.fst = x.fst.snd.fst ∧
 x.fst.snd.snd.fst = x.fst.snd.snd.fst) ∧
 x.snd.fst.fst = x.snd.fst.fst ∧
 x.snd.fst.snd.fst = x.snd.fst.snd.fst ∧
 x.snd.fst.snd.snd.fst = x.snd.fst.snd.snd.fst ∧
 x.snd.fst.snd.snd.snd.fst =
 x.snd.fst.snd.snd.snd.fst ∧
 x.snd.fst.snd.snd.snd.snd.fst =
 x.snd.fst.snd.snd.snd.snd.fst ∧
 x.snd.fst.snd.snd.snd.snd.snd.fst =
 x.snd.fst.snd.snd.snd.snd.snd.fst ∧
 x.snd.fst.snd.snd.snd.snd.snd.snd.fst =
 x.snd.fst.snd.snd.snd.snd.snd.snd.fst) ∧
 a ++
 [atL x.fst.snd.fst
 (List.getD x.snd.fst.fst (Int.toNat a_4)
 (Ty.dflt t68)).snd.snd.snd.fst] =
 a ++
 [atL x.fst.snd.fst
 (List.getD x.snd.fst.fst (Int.toNat a_4)
 (Ty.dflt t68)).snd.snd.snd.fst] ∧
 True) ∧
 Z
 (a ++
 [atL x.fst.snd.fst
 (List.getD x.snd.fst.fst (Int.toNat a_4)
 (Ty.dflt t68)).snd.snd.snd.fst],
 IntKind.wrap IntKind.i64 (a_1 + (1 : Int)), ()) ∧
 μ
 (a ++
 [atL x.fst.snd.fst
 (List.getD x.snd.fst.fst (Int.toNat a_4)
 (Ty.dflt t68)).snd.snd.snd.fst],
 IntKind.wrap IntKind.i64 (a_1 + (1 : Int)), ()) <
 μ (a, a_1, ())) ∧
 (((List.getD x.snd.fst.fst (Int.toNat a_4) (Ty.dflt t68)).snd.fst ==
 (1 : Int)) =
 false →
 (List.length a + List.length [(0 : Int)]) * (8 : Nat) ≤
 (140737488355328 : Nat) ∧
 List.length a + List.length [(0 : Int)] ≤ maxLen ∧
 ((IntKind.wrap IntKind.i64 (a_1 + (1 : Int)) =
 IntKind.wrap IntKind.i64 (a_1 + (1 : Int)) ∧
 True ∧
 True ∧
 True ∧
 x.snd.fst.fst = x.snd.fst.fst ∧
 (↑(List.length x.snd.fst.fst) : Int) =
 (↑(List.length x.snd.fst.fst) : Int)) ∧
 ((x.fst.fst = x.fst.fst ∧
 x.fst.snd.fst = x.fst.snd.fst ∧
 x.fst.snd.snd.fst = x.fst.snd.snd.fst) ∧
 x.snd.fst.fst = x.snd.fst.fst ∧
 x.snd.fst.snd.fst = x.snd.fst.snd.fst ∧
 x.snd.fst.snd.snd.fst = x.snd.fst.snd.snd.fst ∧
 x.snd.fst.snd.snd.snd.fst =
 x.snd.fst.snd.snd.snd.fst ∧
 x.snd.fst.snd.snd.snd.snd.fst =
 x.snd.fst.snd.snd.snd.snd.fst ∧
 x.snd.fst.snd.snd.snd.snd.snd.fst =
 x.snd.fst.snd.snd.snd.snd.snd.fst ∧
 x.snd.fst.snd.snd.snd.snd.snd.snd.fst =
 x.snd.fst.snd.snd.snd.snd.snd.snd.fst) ∧
 a ++ [(0 : Int)] = a ++ [(0 : Int)] ∧ True) ∧
 Z
 (a ++ [(0 : Int)],
 IntKind.wrap IntKind.i64 (a_1 + (1 : Int)), ()) ∧
 μ
 (a ++ [(0 : Int)],
 IntKind.wrap IntKind.i64 (a_1 + (1 : Int)), ()) <
 μ (a, a_1, ()))) ∧
 (((List.getD x.snd.fst.fst (Int.toNat a_1) (Ty.dflt t68)).snd.fst ==
 (4 : Int)) =
 false →
 (List.length a + List.length [(0 : Int)]) * (8 : Nat) ≤
 (140737488355328 : Nat) ∧
 List.length a + List.length [(0 : Int)] ≤ maxLen ∧
 ((IntKind.wrap IntKind.i64 (a_1 + (1 : Int)) =
 IntKind.wrap IntKind.i64 (a_1 + (1 : Int)) ∧
 True ∧
 True ∧
 True ∧
 x.snd.fst.fst = x.snd.fst.fst ∧
 (↑(List.length x.snd.fst.fst) : Int) =
 (↑(List.length x.snd.fst.fst) : Int)) ∧
 ((x.fst.fst = x.fst.fst ∧
 x.fst.snd.fst = x.fst.snd.fst ∧
 x.fst.snd.snd.fst = x.fst.snd.snd.fst) ∧
 x.snd.fst.fst = x.snd.fst.fst ∧
 x.snd.fst.snd.fst = x.snd.fst.snd.fst ∧
 x.snd.fst.snd.snd.fst = x.snd.fst.snd.snd.fst ∧
 x.snd.fst.snd.snd.snd.fst = x.snd.fst.snd.snd.snd.fst ∧
 x.snd.fst.snd.snd.snd.snd.fst =
 x.snd.fst.snd.snd.snd.snd.fst ∧
 x.snd.fst.snd.snd.snd.snd.snd.fst =
 x.snd.fst.snd.snd.snd.snd.snd.fst ∧
 x.snd.fst.snd.snd.snd.snd.snd.snd.fst =
 x.snd.fst.snd.snd.snd.snd.snd.snd.fst) ∧
 a ++ [(0 : Int)] = a ++ [(0 : Int)] ∧ True) ∧
 Z
 (a ++ [(0 : Int)], IntKind.wrap IntKind.i64 (a_1 + (1 : Int)),
 ()) ∧
 μ
 (a ++ [(0 : Int)], IntKind.wrap IntKind.i64 (a_1 + (1 : Int)),
 ()) <
 μ (a, a_1, ()))))) ∧
 (decide (a_1 < (↑(List.length x.snd.fst.fst) : Int)) = false →
 a = styles (atL x.fst.snd.fst) (0 : Int) x.snd.fst.fst)
theorem vcEq29 : fnVC E29 Try.f29 (bodyOf Try.f29) cRefStyles = vc29 := by kernel_rfl
/- fn 30 -/
def hs30 : List (Nat × Nat × Hint) := [(0, 3, ⟨[.slot 9 t3, .cell 3 0 t3, .cell 3 1 t3, .cell 3 2 t3, .cell 3 3 t3], [3, 7, 8], [3], []⟩)]
def nm30 : List Nat := [3000000025, 3000000026]
noncomputable def E30 : Env := env tab [(39, cWithin), (40, cSize)] [] noGl hs30 nm30
def vc30 : Prop :=
 ∀ (x : List Chg × Unit),
 List.length x.fst ≤ maxLen →
 (((0 : Int) = (0 : Int) ∧ True ∧ x.fst = x.fst ∧ (↑(List.length x.fst) : Int) = (↑(List.length x.fst) : Int)) ∧
 (0 : Int) = (0 : Int) ∧ (0 : Int) = (0 : Int) ∧ (0 : Int) = (0 : Int) ∧ (0 : Int) = (0 : Int)) ∧
 ∃ (Z : Int × Int × Int × Int × Int × Unit → Prop),
 ∃ (μ : Int × Int × Int × Int × Int × Unit → Nat),
 Z ((0 : Int), (0 : Int), (0 : Int), (0 : Int), (0 : Int), ()) ∧
 ∀ (a a_1 a_2 a_3 a_4 : Int),
 Z (a, a_1, a_2, a_3, a_4, ()) →
 (decide (a < (↑(List.length x.fst) : Int)) = true →
 ((0 : Int) ≤ a ∧ a < (↑(List.length x.fst) : Int)) ∧
 True ∧
 ((!within (List.getD x.fst (Int.toNat a) (Ty.dflt t76)).fst) = true → false = normal x.fst) ∧
 ((!within (List.getD x.fst (Int.toNat a) (Ty.dflt t76)).fst) = false →
 True ∧
 ((!within (List.getD x.fst (Int.toNat a) (Ty.dflt t76)).snd.fst) = true →
 false = normal x.fst) ∧
 ((!within (List.getD x.fst (Int.toNat a) (Ty.dflt t76)).snd.fst) = false →
 True ∧
 True ∧
 ((IntKind.wrap IntKind.i64
 (size (List.getD x.fst (Int.toNat a) (Ty.dflt t76)).fst +
 size (List.getD x.fst (Int.toNat a) (Ty.dflt t76)).snd.fst) ==
 (0 : Int)) =
 true →
 false = normal x.fst) ∧
 ((IntKind.wrap IntKind.i64
 (size (List.getD x.fst (Int.toNat a) (Ty.dflt t76)).fst +
 size (List.getD x.fst (Int.toNat a) (Ty.dflt t76)).snd.fst) ==
 (0 : Int)) =
 false →
 ((IntKind.wrap IntKind.i64
 ((List.getD x.fst (Int.toNat a) (Ty.dflt t76)).fst.fst - a_2) !=
 IntKind.wrap IntKind.i64
 ((List.getD x.fst (Int.toNat a) (Ty.dflt t76)).snd.fst.fst - a_4)) =
 true →
 false = normal x.fst) ∧
 ((IntKind.wrap IntKind.i64
 ((List.getD x.fst (Int.toNat a) (Ty.dflt t76)).fst.fst - a_2) !=
 IntKind.wrap IntKind.i64
 ((List.getD x.fst (Int.toNat a) (Ty.dflt t76)).snd.fst.fst - a_4)) =
 false →
 (decide
 (IntKind.wrap IntKind.i64
 ((List.getD x.fst (Int.toNat a) (Ty.dflt t76)).fst.fst -
 a_2) <
 (0 : Int)) =
 true →
 false = normal x.fst) ∧
 (decide
 (IntKind.wrap IntKind.i64
 ((List.getD x.fst (Int.toNat a) (Ty.dflt t76)).fst.fst -
 a_2) <
 (0 : Int)) =
 false →
 ((IntKind.wrap IntKind.i64
 ((List.getD x.fst (Int.toNat a) (Ty.dflt t76)).fst.fst -
 a_2) ==
 (0 : Int)) =
 true →
 (decide (a > (0 : Int)) = true → false = normal x.fst) ∧
 (decide (a > (0 : Int)) = false →
 ((IntKind.wrap IntKind.i64 (a + (1 : Int)) =
 IntKind.wrap IntKind.i64 (a + (1 : Int)) ∧
 True ∧
 x.fst = x.fst ∧
 (↑(List.length x.fst) : Int) =
 (↑(List.length x.fst) : Int)) ∧
 (List.getD x.fst (Int.toNat a) (Ty.dflt t76)).fst.fst =
 (List.getD x.fst (Int.toNat a)
 (Ty.dflt t76)).fst.fst ∧
 (List.getD x.fst (Int.toNat a)
 (Ty.dflt t76)).fst.snd.fst =
 (List.getD x.fst (Int.toNat a)
 (Ty.dflt t76)).fst.snd.fst ∧
 (List.getD x.fst (Int.toNat a)
 (Ty.dflt t76)).snd.fst.fst =
 (List.getD x.fst (Int.toNat a)
 (Ty.dflt t76)).snd.fst.fst ∧
 (List.getD x.fst (Int.toNat a)
 (Ty.dflt t76)).snd.fst.snd.fst =
 (List.getD x.fst (Int.toNat a)
 (Ty.dflt t76)).snd.fst.snd.fst) ∧
 Z
 (IntKind.wrap IntKind.i64 (a + (1 : Int)),
 (List.getD x.fst (Int.toNat a) (Ty.dflt t76)).fst.fst,
 (List.getD x.fst (Int.toNat a)
 (Ty.dflt t76)).fst.snd.fst,
 (List.getD x.fst (Int.toNat a)
 (Ty.dflt t76)).snd.fst) ∧
 μ
 (IntKind.wrap IntKind.i64 (a + (1 : Int)),
 (List.getD x.fst (Int.toNat a)
 (Ty.dflt t76)).fst.fst,
 (List.getD x.fst (Int.toNat a)
 (Ty.dflt t76)).fst.snd.fst,
 (List.getD x.fst (Int.toNat a)
 (Ty.dflt t76)).snd.fst) <
 μ (a, a_1, a_2, a_3, a_4, ()))) ∧
 ((IntKind.wrap IntKind.i64
 ((List.getD x.fst (Int.toNat a) (Ty.dflt t76)).fst.fst -
 a_2) ==
 (0 : Int)) =
 false →
 ((IntKind.wrap IntKind.i64 (a + (1 : Int)) =
 IntKind.wrap IntKind.i64 (a + (1 : Int)) ∧
 True ∧
 x.fst = x.fst ∧
 (↑(List.length x.fst) : Int) =
 (↑(List.length x.fst) : Int)) ∧
 (List.getD x.fst (Int.toNat a) (Ty.dflt t76)).fst.fst =
 (List.getD x.fst (Int.toNat a) (Ty.dflt t76)).fst.fst ∧
 (List.getD x.fst (Int.toNat a) (Ty.dflt t76)).fst.snd.fst =
 (List.getD x.fst (Int.toNat a)
 (Ty.dflt t76)).fst.snd.fst ∧
 (List.getD x.fst (Int.toNat a)
 (Ty.dflt t76)).snd.fst.fst =
 (List.getD x.fst (Int.toNat a)
 (Ty.dflt t76)).snd.fst.fst ∧
 (List.getD x.fst (Int.toNat a)
 (Ty.dflt t76)).snd.fst.snd.fst =
 (List.getD x.fst (Int.toNat a)
 (Ty.dflt t76)).snd.fst.snd.fst) ∧
 Z
 (IntKind.wrap IntKind.i64 (a + (1 : Int)),
 (List.getD x.fst (Int.toNat a) (Ty.dflt t76)).fst.fst,
 (List.getD x.fst (Int.toNat a) (Ty.dflt t76)).fst.snd.fst,
 (List.getD x.fst (Int.toNat a) (Ty.dflt t76)).snd.fst) ∧
 μ
 (IntKind.wrap IntKind.i64 (a + (1 : Int)),
 (List.getD x.fst (Int.toNat a) (Ty.dflt t76)).fst.fst,
 (List.getD x.fst (Int.toNat a)
 (Ty.dflt t76)).fst.snd.fst,
 (List.getD x.fst (Int.toNat a) (Ty.dflt t76)).snd.fst) <
 μ (a, a_1, a_2, a_3, a_4, ())))))))) ∧
 (decide (a < (↑(List.length x.fst) : Int)) = false → true = normal x.fst)
theorem vcEq30 : fnVC E30 Try.f30 (bodyOf Try.f30) cNormal = vc30 := by kernel_rfl
/- fn 31 -/
def hs31 : List (Nat × Nat × Hint) := [(0, 3, ⟨[.slot 3 t3, .slot 8 t3], [6, 7], [], []⟩)]
def nm31 : List Nat := [3000000025, 3000000026]
noncomputable def E31 : Env := env tab [(40, cSize)] [] noGl hs31 nm31
def vc31 : Prop :=
 ∀ (x : List Chg × Unit),
 List.length x.fst ≤ maxLen →
 ((0 : Int) = (0 : Int) ∧
 (0 : Int) = (0 : Int) ∧ x.fst = x.fst ∧ (↑(List.length x.fst) : Int) = (↑(List.length x.fst) : Int)) ∧
 ∃ (Z : Int × Int × Unit → Prop),
 ∃ (μ : Int × Int × Unit → Nat),
 Z ((0 : Int), (0 : Int), ()) ∧
 ∀ (a a_1 : Int),
 Z (a, a_1, ()) →
 (decide (a_1 < (↑(List.length x.fst) : Int)) = true →
 ((0 : Int) ≤ a_1 ∧ a_1 < (↑(List.length x.fst) : Int)) ∧
 True ∧
 True ∧
 (IntKind.wrap IntKind.i64 (a_1 + (1 : Int)) = IntKind.wrap IntKind.i64 (a_1 + (1 : Int)) ∧
 IntKind.wrap IntKind.i64
 (a +
 IntKind.wrap IntKind.i64
 (size (List.getD x.fst (Int.toNat a_1) (Ty.dflt t76)).snd.fst -
 size (List.getD x.fst (Int.toNat a_1) (Ty.dflt t76)).fst)) =
 IntKind.wrap IntKind.i64
 (a +
 IntKind.wrap IntKind.i64
 (size (List.getD x.fst (Int.toNat a_1) (Ty.dflt t76)).snd.fst -
 size (List.getD x.fst (Int.toNat a_1) (Ty.dflt t76)).fst)) ∧
 x.fst = x.fst ∧ (↑(List.length x.fst) : Int) = (↑(List.length x.fst) : Int)) ∧
 Z
 (IntKind.wrap IntKind.i64
 (a +
 IntKind.wrap IntKind.i64
 (size (List.getD x.fst (Int.toNat a_1) (Ty.dflt t76)).snd.fst -
 size (List.getD x.fst (Int.toNat a_1) (Ty.dflt t76)).fst)),
 IntKind.wrap IntKind.i64 (a_1 + (1 : Int)), ()) ∧
 μ
 (IntKind.wrap IntKind.i64
 (a +
 IntKind.wrap IntKind.i64
 (size (List.getD x.fst (Int.toNat a_1) (Ty.dflt t76)).snd.fst -
 size (List.getD x.fst (Int.toNat a_1) (Ty.dflt t76)).fst)),
 IntKind.wrap IntKind.i64 (a_1 + (1 : Int)), ()) <
 μ (a, a_1, ())) ∧
 (decide (a_1 < (↑(List.length x.fst) : Int)) = false → a = delta x.fst)
theorem vcEq31 : fnVC E31 Try.f31 (bodyOf Try.f31) cDelta = vc31 := by kernel_rfl
/- fn 32 -/
def hs32 : List (Nat × Nat × Hint) := [(0, 7, ⟨[.slot 8 t3, .slot 32 t3], [1, 2, 30, 31], [], []⟩)]
def nm32 : List Nat := [3000000025, 3000000026]
noncomputable def E32 : Env := env tab [(30, cNormal)] [] noGl hs32 nm32
def vc32 : Prop :=
 ∀ (x : List Chg × Int × Int × Unit),
 List.length x.fst ≤ maxLen →
 List.length x.fst ≤ maxLen ∧
 ((!normal x.fst) = true → ((0 : Int), (4 : Int), ()) = mapP x.fst x.snd.fst x.snd.snd.fst) ∧
 ((!normal x.fst) = false →
 (decide (x.snd.fst < (0 : Int)) = true → ((0 : Int), (1 : Int), ()) = mapP x.fst x.snd.fst x.snd.snd.fst) ∧
 (decide (x.snd.fst < (0 : Int)) = false →
 (decide (x.snd.fst > (1099511627776 : Int)) = true →
 ((0 : Int), (1 : Int), ()) = mapP x.fst x.snd.fst x.snd.snd.fst) ∧
 (decide (x.snd.fst > (1099511627776 : Int)) = false →
 ((x.snd.snd.fst != (0 : Int)) = true →
 ((x.snd.snd.fst != (1 : Int)) = true →
 ((0 : Int), (1 : Int), ()) = mapP x.fst x.snd.fst x.snd.snd.fst) ∧
 ((x.snd.snd.fst != (1 : Int)) = false →
 ((0 : Int) = (0 : Int) ∧
 (0 : Int) = (0 : Int) ∧
 x.snd.fst = x.snd.fst ∧
 x.snd.snd.fst = x.snd.snd.fst ∧
 x.fst = x.fst ∧ (↑(List.length x.fst) : Int) = (↑(List.length x.fst) : Int)) ∧
 ∃ (Z : Int × Int × Unit → Prop),
 ∃ (μ : Int × Int × Unit → Nat),
 Z ((0 : Int), (0 : Int), ()) ∧
 ∀ (a a_1 : Int),
 Z (a, a_1, ()) →
 (decide (a_1 < (↑(List.length x.fst) : Int)) = true →
 ((0 : Int) ≤ a_1 ∧ a_1 < (↑(List.length x.fst) : Int)) ∧
 (decide
 (x.snd.fst <
 (List.getD x.fst (Int.toNat a_1) (Ty.dflt t76)).fst.fst) =
 true →
 (IntKind.wrap IntKind.i64 (x.snd.fst + a), (0 : Int), ()) =
 mapP x.fst x.snd.fst x.snd.snd.fst) ∧
 (decide
 (x.snd.fst <
 (List.getD x.fst (Int.toNat a_1) (Ty.dflt t76)).fst.fst) =
 false →
 (decide
 (x.snd.fst ≤
 (List.getD x.fst (Int.toNat a_1) (Ty.dflt t76)).fst.snd.fst) =
 true →
 ((x.snd.snd.fst == (0 : Int)) = true →
 ((List.getD x.fst (Int.toNat a_1) (Ty.dflt t76)).snd.fst.fst,
 (0 : Int), ()) =
 mapP x.fst x.snd.fst x.snd.snd.fst) ∧
 ((x.snd.snd.fst == (0 : Int)) = false →
 (decide
 (x.snd.fst ≤
 (List.getD x.fst (Int.toNat a_1)
 (Ty.dflt t76)).fst.snd.fst) =
 true →
 ((List.getD x.fst (Int.toNat a_1)
 (Ty.dflt t76)).snd.fst.snd.fst,
 (0 : Int), ()) =
 mapP x.fst x.snd.fst x.snd.snd.fst) ∧
 (decide
 (x.snd.fst ≤
 (List.getD x.fst (Int.toNat a_1)
 (Ty.dflt t76)).fst.snd.fst) =
 false →
 (IntKind.wrap IntKind.i64 (a_1 + (1 : Int)) =
 IntKind.wrap IntKind.i64 (a_1 + (1 : Int)) ∧
 IntKind.wrap IntKind.i64
 ((List.getD x.fst (Int.toNat a_1)
 (Ty.dflt t76)).snd.fst.snd.fst -
 (List.getD x.fst (Int.toNat a_1)
 (Ty.dflt t76)).fst.snd.fst) =
 IntKind.wrap IntKind.i64
 ((List.getD x.fst (Int.toNat a_1)
 (Ty.dflt t76)).snd.fst.snd.fst -
 (List.getD x.fst (Int.toNat a_1)
 (Ty.dflt t76)).fst.snd.fst) ∧
 x.snd.fst = x.snd.fst ∧
 x.snd.snd.fst = x.snd.snd.fst ∧
 x.fst = x.fst ∧
 (↑(List.length x.fst) : Int) =
 (↑(List.length x.fst) : Int)) ∧
 Z
 (IntKind.wrap IntKind.i64
 ((List.getD x.fst (Int.toNat a_1)
 (Ty.dflt t76)).snd.fst.snd.fst -
 (List.getD x.fst (Int.toNat a_1)
 (Ty.dflt t76)).fst.snd.fst),
 IntKind.wrap IntKind.i64 (a_1 + (1 : Int)), ()) ∧
 μ
 (IntKind.wrap IntKind.i64
 ((List.getD x.fst (Int.toNat a_1)
 (Ty.dflt t76)).snd.fst.snd.fst -
 (List.getD x.fst (Int.toNat a_1)
 (Ty.dflt t76)).fst.snd.fst),
 IntKind.wrap IntKind.i64 (a_1 + (1 : Int)), ()) <
 μ (a, a_1, ())))) ∧
 (decide
 (x.snd.fst ≤
 (List.getD x.fst (Int.toNat a_1) (Ty.dflt t76)).fst.snd.fst) =
 false →
 (decide
 (x.snd.fst ≤
 (List.getD x.fst (Int.toNat a_1)
 (Ty.dflt t76)).fst.snd.fst) =
 true →
 ((List.getD x.fst (Int.toNat a_1)
 (Ty.dflt t76)).snd.fst.snd.fst,
 (0 : Int), ()) =
 mapP x.fst x.snd.fst x.snd.snd.fst) ∧
 (decide
 (x.snd.fst ≤
 (List.getD x.fst (Int.toNat a_1)
 (Ty.dflt t76)).fst.snd.fst) =
 false →
 (IntKind.wrap IntKind.i64 (a_1 + (1 : Int)) =
 IntKind.wrap IntKind.i64 (a_1 + (1 : Int)) ∧
 IntKind.wrap IntKind.i64
 ((List.getD x.fst (Int.toNat a_1)
 (Ty.dflt t76)).snd.fst.snd.fst -
 (List.getD x.fst (Int.toNat a_1)
 (Ty.dflt t76)).fst.snd.fst) =
 IntKind.wrap IntKind.i64
 ((List.getD x.fst (Int.toNat a_1)
 (Ty.dflt t76)).snd.fst.snd.fst -
 (List.getD x.fst (Int.toNat a_1)
 (Ty.dflt t76)).fst.snd.fst) ∧
 x.snd.fst = x.snd.fst ∧
 x.snd.snd.fst = x.snd.snd.fst ∧
 x.fst = x.fst ∧
 (↑(List.length x.fst) : Int) =
 (↑(List.length x.fst) : Int)) ∧
 Z
 (IntKind.wrap IntKind.i64
 ((List.getD x.fst (Int.toNat a_1)
 (Ty.dflt t76)).snd.fst.snd.fst -
 (List.getD x.fst (Int.toNat a_1)
 (Ty.dflt t76)).fst.snd.fst),
 IntKind.wrap IntKind.i64 (a_1 + (1 : Int)), ()) ∧
 μ
 (IntKind.wrap IntKind.i64
 ((List.getD x.fst (Int.toNat a_1)
 (Ty.dflt t76)).snd.fst.snd.fst -
 (List.getD x.fst (Int.toNat a_1)
 (Ty.dflt t76)).fst.snd.fst),
 IntKind.wrap IntKind.i64 (a_1 + (1 : Int)), ()) <
 μ (a, a_1, ()))))) ∧
 (decide (a_1 < (↑(List.length x.fst) : Int)) = false →
 (IntKind.wrap IntKind.i64 (x.snd.fst + a), (0 : Int), ()) =
 mapP x.fst x.snd.fst x.snd.snd.fst))) ∧
 ((x.snd.snd.fst != (0 : Int)) = false →
 ((0 : Int) = (0 : Int) ∧
 (0 : Int) = (0 : Int) ∧
 x.snd.fst = x.snd.fst ∧
 x.snd.snd.fst = x.snd.snd.fst ∧
 x.fst = x.fst ∧ (↑(List.length x.fst) : Int) = (↑(List.length x.fst) : Int)) ∧
 ∃ (Z : Int × Int × Unit → Prop),
 ∃ (μ : Int × Int × Unit → Nat),
 Z ((0 : Int), (0 : Int), ()) ∧
 ∀ (a a_1 : Int),
 Z (a, a_1, ()) →
 (decide (a_1 < (↑(List.length x.fst) : Int)) = true →
 ((0 : Int) ≤ a_1 ∧ a_1 < (↑(List.length x.fst) : Int)) ∧
 (decide (x.snd.fst < (List.getD x.fst (Int.toNat a_1) (Ty.dflt t76)).fst.fst) =
 true →
 (IntKind.wrap IntKind.i64 (x.snd.fst + a), (0 : Int), ()) =
 mapP x.fst x.snd.fst x.snd.snd.fst) ∧
 (decide
 (x.snd.fst < (List.getD x.fst (Int.toNat a_1) (Ty.dflt t76)).fst.fst) =
 false →
 (decide
 (x.snd.fst ≤
 (List.getD x.fst (Int.toNat a_1) (Ty.dflt t76)).fst.snd.fst) =
 true →
 ((x.snd.snd.fst == (0 : Int)) = true →
 ((List.getD x.fst (Int.toNat a_1) (Ty.dflt t76)).snd.fst.fst,
 (0 : Int), ()) =
 mapP x.fst x.snd.fst x.snd.snd.fst) ∧
 ((x.snd.snd.fst == (0 : Int)) = false →
 (decide
 (x.snd.fst ≤
 (List.getD x.fst (Int.toNat a_1)
 (Ty.dflt t76)).fst.snd.fst) =
 true →
 ((List.getD x.fst (Int.toNat a_1)
 (Ty.dflt t76)).snd.fst.snd.fst,
 (0 : Int), ()) =
 mapP x.fst x.snd.fst x.snd.snd.fst) ∧
 (decide
 (x.snd.fst ≤
 (List.getD x.fst (Int.toNat a_1)
 (Ty.dflt t76)).fst.snd.fst) =
 false →
 (IntKind.wrap IntKind.i64 (a_1 + (1 : Int)) =
 IntKind.wrap IntKind.i64 (a_1 + (1 : Int)) ∧
 IntKind.wrap IntKind.i64
 ((List.getD x.fst (Int.toNat a_1)
 (Ty.dflt t76)).snd.fst.snd.fst -
 (List.getD x.fst (Int.toNat a_1)
 (Ty.dflt t76)).fst.snd.fst) =
 IntKind.wrap IntKind.i64
 ((List.getD x.fst (Int.toNat a_1)
 (Ty.dflt t76)).snd.fst.snd.fst -
 (List.getD x.fst (Int.toNat a_1)
 (Ty.dflt t76)).fst.snd.fst) ∧
 x.snd.fst = x.snd.fst ∧
 x.snd.snd.fst = x.snd.snd.fst ∧
 x.fst = x.fst ∧
 (↑(List.length x.fst) : Int) =
 (↑(List.length x.fst) : Int)) ∧
 Z
 (IntKind.wrap IntKind.i64
 ((List.getD x.fst (Int.toNat a_1)
 (Ty.dflt t76)).snd.fst.snd.fst -
 (List.getD x.fst (Int.toNat a_1)
 (Ty.dflt t76)).fst.snd.fst),
 IntKind.wrap IntKind.i64 (a_1 + (1 : Int)), ()) ∧
 μ
 (IntKind.wrap IntKind.i64
 ((List.getD x.fst (Int.toNat a_1)
 (Ty.dflt t76)).snd.fst.snd.fst -
 (List.getD x.fst (Int.toNat a_1)
 (Ty.dflt t76)).fst.snd.fst),
 IntKind.wrap IntKind.i64 (a_1 + (1 : Int)), ()) <
 μ (a, a_1, ())))) ∧
 (decide
 (x.snd.fst ≤
 (List.getD x.fst (Int.toNat a_1) (Ty.dflt t76)).fst.snd.fst) =
 false →
 (decide
 (x.snd.fst ≤
 (List.getD x.fst (Int.toNat a_1) (Ty.dflt t76)).fst.snd.fst) =
 true →
 ((List.getD x.fst (Int.toNat a_1) (Ty.dflt t76)).snd.fst.snd.fst,
 (0 : Int), ()) =
 mapP x.fst x.snd.fst x.snd.snd.fst) ∧
 (decide
 (x.snd.fst ≤
 (List.getD x.fst (Int.toNat a_1) (Ty.dflt t76)).fst.snd.fst) =
 false →
 (IntKind.wrap IntKind.i64 (a_1 + (1 : Int)) =
 IntKind.wrap IntKind.i64 (a_1 + (1 : Int)) ∧
 IntKind.wrap IntKind.i64
 ((List.getD x.fst (Int.toNat a_1)
 (Ty.dflt t76)).snd.fst.snd.fst -
 (List.getD x.fst (Int.toNat a_1)
 (Ty.dflt t76)).fst.snd.fst) =
 IntKind.wrap IntKind.i64
 ((List.getD x.fst (Int.toNat a_1)
 (Ty.dflt t76)).snd.fst.snd.fst -
 (List.getD x.fst (Int.toNat a_1)
 (Ty.dflt t76)).fst.snd.fst) ∧
 x.snd.fst = x.snd.fst ∧
 x.snd.snd.fst = x.snd.snd.fst ∧
 x.fst = x.fst ∧
 (↑(List.length x.fst) : Int) =
 (↑(List.length x.fst) : Int)) ∧
 Z
 (IntKind.wrap IntKind.i64
 ((List.getD x.fst (Int.toNat a_1)
 (Ty.dflt t76)).snd.fst.snd.fst -
 (List.getD x.fst (Int.toNat a_1)
 (Ty.dflt t76)).fst.snd.fst),
 IntKind.wrap IntKind.i64 (a_1 + (1 : Int)), ()) ∧
 μ
 (IntKind.wrap IntKind.i64
 ((List.getD x.fst (Int.toNat a_1)
 (Ty.dflt t76)).snd.fst.snd.fst -
 (List.getD x.fst (Int.toNat a_1)
 (Ty.dflt t76)).fst.snd.fst),
 IntKind.wrap IntKind.i64 (a_1 + (1 : Int)), ()) <
 μ (a, a_1, ()))))) ∧
 (decide (a_1 < (↑(List.length x.fst) : Int)) = false →
 (IntKind.wrap IntKind.i64 (x.snd.fst + a), (0 : Int), ()) =
 mapP x.fst x.snd.fst x.snd.snd.fst)))))
theorem vcEq32 : fnVC E32 Try.f32 (bodyOf Try.f32) cMap = vc32 := by kernel_rfl
/- fn 35 -/
def hs35 : List (Nat × Nat × Hint) := [(0, 2, ⟨[.slot 9 t3], [0, 7, 8], [], []⟩)]
def nm35 : List Nat := [3000000025, 3000000026]
noncomputable def E35 : Env := env tab [(42, cWithin)] [] noGl hs35 nm35
def vc35 : Prop :=
 ∀ (x : List Chg × Unit),
 List.length x.fst ≤ maxLen →
 ((0 : Int) = (0 : Int) ∧
 x.fst = x.fst ∧ x.fst = x.fst ∧ (↑(List.length x.fst) : Int) = (↑(List.length x.fst) : Int)) ∧
 ∃ (Z : Int × Unit → Prop),
 ∃ (μ : Int × Unit → Nat),
 Z ((0 : Int), ()) ∧
 ∀ (a : Int),
 Z (a, ()) →
 (decide (a < (↑(List.length x.fst) : Int)) = true →
 ((0 : Int) ≤ a ∧ a < (↑(List.length x.fst) : Int)) ∧
 True ∧
 ((!within (List.getD x.fst (Int.toNat a) (Ty.dflt t83)).fst) = true → false = normal x.fst) ∧
 ((!within (List.getD x.fst (Int.toNat a) (Ty.dflt t83)).fst) = false →
 True ∧
 ((!within (List.getD x.fst (Int.toNat a) (Ty.dflt t83)).snd.fst) = true →
 false = normal x.fst) ∧
 ((!within (List.getD x.fst (Int.toNat a) (Ty.dflt t83)).snd.fst) = false →
 (((List.getD x.fst (Int.toNat a) (Ty.dflt t83)).fst.fst ==
 (List.getD x.fst (Int.toNat a) (Ty.dflt t83)).fst.snd.fst) =
 true →
 (((List.getD x.fst (Int.toNat a) (Ty.dflt t83)).snd.fst.fst ==
 (List.getD x.fst (Int.toNat a) (Ty.dflt t83)).snd.fst.snd.fst) =
 true →
 false = normal x.fst) ∧
 (((List.getD x.fst (Int.toNat a) (Ty.dflt t83)).snd.fst.fst ==
 (List.getD x.fst (Int.toNat a) (Ty.dflt t83)).snd.fst.snd.fst) =
 false →
 (decide (a > (0 : Int)) = true →
 ((0 : Int) ≤ IntKind.wrap IntKind.i64 (a - (1 : Int)) ∧
 IntKind.wrap IntKind.i64 (a - (1 : Int)) <
 (↑(List.length x.fst) : Int)) ∧
 (decide
 (IntKind.wrap IntKind.i64
 ((List.getD x.fst (Int.toNat a) (Ty.dflt t83)).fst.fst -
 (List.getD x.fst
 (Int.toNat
 (IntKind.wrap IntKind.i64 (a - (1 : Int))))
 (Ty.dflt t83)).fst.snd.fst) <
 (0 : Int)) =
 true →
 false = normal x.fst) ∧
 (decide
 (IntKind.wrap IntKind.i64
 ((List.getD x.fst (Int.toNat a) (Ty.dflt t83)).fst.fst -
 (List.getD x.fst
 (Int.toNat
 (IntKind.wrap IntKind.i64 (a - (1 : Int))))
 (Ty.dflt t83)).fst.snd.fst) <
 (0 : Int)) =
 false →
 ((IntKind.wrap IntKind.i64
 ((List.getD x.fst (Int.toNat a) (Ty.dflt t83)).fst.fst -
 (List.getD x.fst
 (Int.toNat
 (IntKind.wrap IntKind.i64 (a - (1 : Int))))
 (Ty.dflt t83)).fst.snd.fst) !=
 IntKind.wrap IntKind.i64
 ((List.getD x.fst (Int.toNat a)
 (Ty.dflt t83)).snd.fst.fst -
 (List.getD x.fst
 (Int.toNat
 (IntKind.wrap IntKind.i64 (a - (1 : Int))))
 (Ty.dflt t83)).snd.fst.snd.fst)) =
 true →
 false = normal x.fst) ∧
 ((IntKind.wrap IntKind.i64
 ((List.getD x.fst (Int.toNat a) (Ty.dflt t83)).fst.fst -
 (List.getD x.fst
 (Int.toNat
 (IntKind.wrap IntKind.i64 (a - (1 : Int))))
 (Ty.dflt t83)).fst.snd.fst) !=
 IntKind.wrap IntKind.i64
 ((List.getD x.fst (Int.toNat a)
 (Ty.dflt t83)).snd.fst.fst -
 (List.getD x.fst
 (Int.toNat
 (IntKind.wrap IntKind.i64 (a - (1 : Int))))
 (Ty.dflt t83)).snd.fst.snd.fst)) =
 false →
 (decide (a > (0 : Int)) = true →
 ((IntKind.wrap IntKind.i64
 ((List.getD x.fst (Int.toNat a)
 (Ty.dflt t83)).fst.fst -
 (List.getD x.fst
 (Int.toNat
 (IntKind.wrap IntKind.i64
 (a - (1 : Int))))
 (Ty.dflt t83)).fst.snd.fst) ==
 (0 : Int)) =
 true →
 false = normal x.fst) ∧
 ((IntKind.wrap IntKind.i64
 ((List.getD x.fst (Int.toNat a)
 (Ty.dflt t83)).fst.fst -
 (List.getD x.fst
 (Int.toNat
 (IntKind.wrap IntKind.i64
 (a - (1 : Int))))
 (Ty.dflt t83)).fst.snd.fst) ==
 (0 : Int)) =
 false →
 (IntKind.wrap IntKind.i64 (a + (1 : Int)) =
 IntKind.wrap IntKind.i64 (a + (1 : Int)) ∧
 x.fst = x.fst ∧
 x.fst = x.fst ∧
 (↑(List.length x.fst) : Int) =
 (↑(List.length x.fst) : Int)) ∧
 Z (IntKind.wrap IntKind.i64 (a + (1 : Int)), ()) ∧
 μ (IntKind.wrap IntKind.i64 (a + (1 : Int)), ()) <
 μ (a, ()))) ∧
 (decide (a > (0 : Int)) = false →
 (IntKind.wrap IntKind.i64 (a + (1 : Int)) =
 IntKind.wrap IntKind.i64 (a + (1 : Int)) ∧
 x.fst = x.fst ∧
 x.fst = x.fst ∧
 (↑(List.length x.fst) : Int) =
 (↑(List.length x.fst) : Int)) ∧
 Z (IntKind.wrap IntKind.i64 (a + (1 : Int)), ()) ∧
 μ (IntKind.wrap IntKind.i64 (a + (1 : Int)), ()) <
 μ (a, ()))))) ∧
 (decide (a > (0 : Int)) = false →
 (decide
 (IntKind.wrap IntKind.i64
 ((List.getD x.fst (Int.toNat a) (Ty.dflt t83)).fst.fst -
 (0 : Int)) <
 (0 : Int)) =
 true →
 false = normal x.fst) ∧
 (decide
 (IntKind.wrap IntKind.i64
 ((List.getD x.fst (Int.toNat a) (Ty.dflt t83)).fst.fst -
 (0 : Int)) <
 (0 : Int)) =
 false →
 ((IntKind.wrap IntKind.i64
 ((List.getD x.fst (Int.toNat a) (Ty.dflt t83)).fst.fst -
 (0 : Int)) !=
 IntKind.wrap IntKind.i64
 ((List.getD x.fst (Int.toNat a) (Ty.dflt t83)).snd.fst.fst -
 (0 : Int))) =
 true →
 false = normal x.fst) ∧
 ((IntKind.wrap IntKind.i64
 ((List.getD x.fst (Int.toNat a) (Ty.dflt t83)).fst.fst -
 (0 : Int)) !=
 IntKind.wrap IntKind.i64
 ((List.getD x.fst (Int.toNat a) (Ty.dflt t83)).snd.fst.fst -
 (0 : Int))) =
 false →
 (decide (a > (0 : Int)) = true →
 ((IntKind.wrap IntKind.i64
 ((List.getD x.fst (Int.toNat a)
 (Ty.dflt t83)).fst.fst -
 (0 : Int)) ==
 (0 : Int)) =
 true →
 false = normal x.fst) ∧
 ((IntKind.wrap IntKind.i64
 ((List.getD x.fst (Int.toNat a)
 (Ty.dflt t83)).fst.fst -
 (0 : Int)) ==
 (0 : Int)) =
 false →
 (IntKind.wrap IntKind.i64 (a + (1 : Int)) =
 IntKind.wrap IntKind.i64 (a + (1 : Int)) ∧
 x.fst = x.fst ∧
 x.fst = x.fst ∧
 (↑(List.length x.fst) : Int) =
 (↑(List.length x.fst) : Int)) ∧
 Z (IntKind.wrap IntKind.i64 (a + (1 : Int)), ()) ∧
 μ (IntKind.wrap IntKind.i64 (a + (1 : Int)), ()) <
 μ (a, ()))) ∧
 (decide (a > (0 : Int)) = false →
 (IntKind.wrap IntKind.i64 (a + (1 : Int)) =
 IntKind.wrap IntKind.i64 (a + (1 : Int)) ∧
 x.fst = x.fst ∧
 x.fst = x.fst ∧
 (↑(List.length x.fst) : Int) =
 (↑(List.length x.fst) : Int)) ∧
 Z (IntKind.wrap IntKind.i64 (a + (1 : Int)), ()) ∧
 μ (IntKind.wrap IntKind.i64 (a + (1 : Int)), ()) <
 μ (a, ()))))))) ∧
 (((List.getD x.fst (Int.toNat a) (Ty.dflt t83)).fst.fst ==
 (List.getD x.fst (Int.toNat a) (Ty.dflt t83)).fst.snd.fst) =
 false →
 (decide (a > (0 : Int)) = true →
 ((0 : Int) ≤ IntKind.wrap IntKind.i64 (a - (1 : Int)) ∧
 IntKind.wrap IntKind.i64 (a - (1 : Int)) < (↑(List.length x.fst) : Int)) ∧
 (decide
 (IntKind.wrap IntKind.i64
 ((List.getD x.fst (Int.toNat a) (Ty.dflt t83)).fst.fst -
 (List.getD x.fst
 (Int.toNat (IntKind.wrap IntKind.i64 (a - (1 : Int))))
 (Ty.dflt t83)).fst.snd.fst) <
 (0 : Int)) =
 true →
 false = normal x.fst) ∧
 (decide
 (IntKind.wrap IntKind.i64
 ((List.getD x.fst (Int.toNat a) (Ty.dflt t83)).fst.fst -
 (List.getD x.fst
 (Int.toNat (IntKind.wrap IntKind.i64 (a - (1 : Int))))
 (Ty.dflt t83)).fst.snd.fst) <
 (0 : Int)) =
 false →
 ((IntKind.wrap IntKind.i64
 ((List.getD x.fst (Int.toNat a) (Ty.dflt t83)).fst.fst -
 (List.getD x.fst
 (Int.toNat
 (IntKind.wrap IntKind.i64 (a - (1 : Int))))
 (Ty.dflt t83)).fst.snd.fst) !=
 IntKind.wrap IntKind.i64
 ((List.getD x.fst (Int.toNat a) (Ty.dflt t83)).snd.fst.fst -
 (List.getD x.fst
 (Int.toNat
 (IntKind.wrap IntKind.i64 (a - (1 : Int))))
 (Ty.dflt t83)).snd.fst.snd.fst)) =
 true →
 false = normal x.fst) ∧
 ((IntKind.wrap IntKind.i64
 ((List.getD x.fst (Int.toNat a) (Ty.dflt t83)).fst.fst -
 (List.getD x.fst
 (Int.toNat
 (IntKind.wrap IntKind.i64 (a - (1 : Int))))
 (Ty.dflt t83)).fst.snd.fst) !=
 IntKind.wrap IntKind.i64
 ((List.getD x.fst (Int.toNat a) (Ty.dflt t83)).snd.fst.fst -
 (List.getD x.fst
 (Int.toNat
 (IntKind.wrap IntKind.i64 (a - (1 : Int))))
 (Ty.dflt t83)).snd.fst.snd.fst)) =
 false →
 (decide (a > (0 : Int)) = true →
 ((IntKind.wrap IntKind.i64
 ((List.getD x.fst (Int.toNat a)
 (Ty.dflt t83)).fst.fst -
 (List.getD x.fst
 (Int.toNat
 (IntKind.wrap IntKind.i64
 (a - (1 : Int))))
 (Ty.dflt t83)).fst.snd.fst) ==
 (0 : Int)) =
 true →
 false = normal x.fst) ∧
 ((IntKind.wrap IntKind.i64
 ((List.getD x.fst (Int.toNat a)
 (Ty.dflt t83)).fst.fst -
 (List.getD x.fst
 (Int.toNat
 (IntKind.wrap IntKind.i64
 (a - (1 : Int))))
 (Ty.dflt t83)).fst.snd.fst) ==
 (0 : Int)) =
 false →
 (IntKind.wrap IntKind.i64 (a + (1 : Int)) =
 IntKind.wrap IntKind.i64 (a + (1 : Int)) ∧
 x.fst = x.fst ∧
 x.fst = x.fst ∧
 (↑(List.length x.fst) : Int) =
 (↑(List.length x.fst) : Int)) ∧
 Z (IntKind.wrap IntKind.i64 (a + (1 : Int)), ()) ∧
 μ (IntKind.wrap IntKind.i64 (a + (1 : Int)), ()) <
 μ (a, ()))) ∧
 (decide (a > (0 : Int)) = false →
 (IntKind.wrap IntKind.i64 (a + (1 : Int)) =
 IntKind.wrap IntKind.i64 (a + (1 : Int)) ∧
 x.fst = x.fst ∧
 x.fst = x.fst ∧
 (↑(List.length x.fst) : Int) =
 (↑(List.length x.fst) : Int)) ∧
 Z (IntKind.wrap IntKind.i64 (a + (1 : Int)), ()) ∧
 μ (IntKind.wrap IntKind.i64 (a + (1 : Int)), ()) <
 μ (a, ()))))) ∧
 (decide (a > (0 : Int)) = false →
 (decide
 (IntKind.wrap IntKind.i64
 ((List.getD x.fst (Int.toNat a) (Ty.dflt t83)).fst.fst -
 (0 : Int)) <
 (0 : Int)) =
 true →
 false = normal x.fst) ∧
 (decide
 (IntKind.wrap IntKind.i64
 ((List.getD x.fst (Int.toNat a) (Ty.dflt t83)).fst.fst -
 (0 : Int)) <
 (0 : Int)) =
 false →
 ((IntKind.wrap IntKind.i64
 ((List.getD x.fst (Int.toNat a) (Ty.dflt t83)).fst.fst -
 (0 : Int)) !=
 IntKind.wrap IntKind.i64
 ((List.getD x.fst (Int.toNat a) (Ty.dflt t83)).snd.fst.fst -
 (0 : Int))) =
 true →
 false = normal x.fst) ∧
 ((IntKind.wrap IntKind.i64
 ((List.getD x.fst (Int.toNat a) (Ty.dflt t83)).fst.fst -
 (0 : Int)) !=
 IntKind.wrap IntKind.i64
 ((List.getD x.fst (Int.toNat a) (Ty.dflt t83)).snd.fst.fst -
 (0 : Int))) =
 false →
 (decide (a > (0 : Int)) = true →
 ((IntKind.wrap IntKind.i64
 ((List.getD x.fst (Int.toNat a) (Ty.dflt t83)).fst.fst -
 (0 : Int)) ==
 (0 : Int)) =
 true →
 false = normal x.fst) ∧
 ((IntKind.wrap IntKind.i64
 ((List.getD x.fst (Int.toNat a) (Ty.dflt t83)).fst.fst -
 (0 : Int)) ==
 (0 : Int)) =
 false →
 (IntKind.wrap IntKind.i64 (a + (1 : Int)) =
 IntKind.wrap IntKind.i64 (a + (1 : Int)) ∧
 x.fst = x.fst ∧
 x.fst = x.fst ∧
 (↑(List.length x.fst) : Int) =
 (↑(List.length x.fst) : Int)) ∧
 Z (IntKind.wrap IntKind.i64 (a + (1 : Int)), ()) ∧
 μ (IntKind.wrap IntKind.i64 (a + (1 : Int)), ()) <
 μ (a, ()))) ∧
 (decide (a > (0 : Int)) = false →
 (IntKind.wrap IntKind.i64 (a + (1 : Int)) =
 IntKind.wrap IntKind.i64 (a + (1 : Int)) ∧
 x.fst = x.fst ∧
 x.fst = x.fst ∧
 (↑(List.length x.fst) : Int) =
 (↑(List.length x.fst) : Int)) ∧
 Z (IntKind.wrap IntKind.i64 (a + (1 : Int)), ()) ∧
 μ (IntKind.wrap IntKind.i64 (a + (1 : Int)), ()) <
 μ (a, ()))))))))) ∧
 (decide (a < (↑(List.length x.fst) : Int)) = false → true = normal x.fst)
theorem vcEq35 : fnVC E35 Try.f35 (bodyOf Try.f35) cRefNormal = vc35 := by kernel_rfl
/- fn 36 -/
def hs36 : List (Nat × Nat × Hint) := [(0, 3, ⟨[.slot 7 t3, .slot 12 t3], [1, 2, 10, 11], [], []⟩)]
def nm36 : List Nat := [3000000025, 3000000026]
noncomputable def E36 : Env := env tab [] [] noGl hs36 nm36
def vc36 : Prop :=
 ∀ (x : List Chg × Int × Int × Unit),
 List.length x.fst ≤ maxLen ∧ normal x.fst = true ∧ (0 : Int) ≤ x.snd.fst ∧ x.snd.fst ≤ (1099511627776 : Int) →
 ((0 : Int) = (0 : Int) ∧
 (0 : Int) = (0 : Int) ∧
 x.snd.fst = x.snd.fst ∧
 x.snd.snd.fst = x.snd.snd.fst ∧
 x.fst = x.fst ∧ (↑(List.length x.fst) : Int) = (↑(List.length x.fst) : Int)) ∧
 ∃ (Z : Int × Int × Unit → Prop),
 ∃ (μ : Int × Int × Unit → Nat),
 Z ((0 : Int), (0 : Int), ()) ∧
 ∀ (a a_1 : Int),
 Z (a, a_1, ()) →
 (decide (a_1 < (↑(List.length x.fst) : Int)) = true →
 ((0 : Int) ≤ a_1 ∧ a_1 < (↑(List.length x.fst) : Int)) ∧
 (decide (x.snd.fst ≥ (List.getD x.fst (Int.toNat a_1) (Ty.dflt t83)).fst.fst) = true →
 (decide (x.snd.fst ≤ (List.getD x.fst (Int.toNat a_1) (Ty.dflt t83)).fst.snd.fst) = true →
 ((x.snd.snd.fst == (0 : Int)) = true →
 (List.getD x.fst (Int.toNat a_1) (Ty.dflt t83)).snd.fst.fst =
 refMap x.snd.fst x.snd.snd.fst x.fst (0 : Int)) ∧
 ((x.snd.snd.fst == (0 : Int)) = false →
 (List.getD x.fst (Int.toNat a_1) (Ty.dflt t83)).snd.fst.snd.fst =
 refMap x.snd.fst x.snd.snd.fst x.fst (0 : Int))) ∧
 (decide (x.snd.fst ≤ (List.getD x.fst (Int.toNat a_1) (Ty.dflt t83)).fst.snd.fst) = false →
 (decide (x.snd.fst > (List.getD x.fst (Int.toNat a_1) (Ty.dflt t83)).fst.snd.fst) = true →
 (IntKind.wrap IntKind.i64 (a_1 + (1 : Int)) =
 IntKind.wrap IntKind.i64 (a_1 + (1 : Int)) ∧
 IntKind.wrap IntKind.i64
 ((List.getD x.fst (Int.toNat a_1) (Ty.dflt t83)).snd.fst.snd.fst -
 (List.getD x.fst (Int.toNat a_1) (Ty.dflt t83)).fst.snd.fst) =
 IntKind.wrap IntKind.i64
 ((List.getD x.fst (Int.toNat a_1) (Ty.dflt t83)).snd.fst.snd.fst -
 (List.getD x.fst (Int.toNat a_1) (Ty.dflt t83)).fst.snd.fst) ∧
 x.snd.fst = x.snd.fst ∧
 x.snd.snd.fst = x.snd.snd.fst ∧
 x.fst = x.fst ∧
 (↑(List.length x.fst) : Int) = (↑(List.length x.fst) : Int)) ∧
 Z
 (IntKind.wrap IntKind.i64
 ((List.getD x.fst (Int.toNat a_1) (Ty.dflt t83)).snd.fst.snd.fst -
 (List.getD x.fst (Int.toNat a_1) (Ty.dflt t83)).fst.snd.fst),
 IntKind.wrap IntKind.i64 (a_1 + (1 : Int)), ()) ∧
 μ
 (IntKind.wrap IntKind.i64
 ((List.getD x.fst (Int.toNat a_1) (Ty.dflt t83)).snd.fst.snd.fst -
 (List.getD x.fst (Int.toNat a_1) (Ty.dflt t83)).fst.snd.fst),
 IntKind.wrap IntKind.i64 (a_1 + (1 : Int)), ()) <
 μ (a, a_1, ())) ∧
 (decide (x.snd.fst > (List.getD x.fst (Int.toNat a_1) (Ty.dflt t83)).fst.snd.fst) =
 false →
 (IntKind.wrap IntKind.i64 (a_1 + (1 : Int)) =
 IntKind.wrap IntKind.i64 (a_1 + (1 : Int)) ∧
 a = a ∧
 x.snd.fst = x.snd.fst ∧
 x.snd.snd.fst = x.snd.snd.fst ∧
 x.fst = x.fst ∧
 (↑(List.length x.fst) : Int) = (↑(List.length x.fst) : Int)) ∧
 Z (a, IntKind.wrap IntKind.i64 (a_1 + (1 : Int)), ()) ∧
 μ (a, IntKind.wrap IntKind.i64 (a_1 + (1 : Int)), ()) < μ (a, a_1, ())))) ∧
 (decide (x.snd.fst ≥ (List.getD x.fst (Int.toNat a_1) (Ty.dflt t83)).fst.fst) = false →
 (decide (x.snd.fst > (List.getD x.fst (Int.toNat a_1) (Ty.dflt t83)).fst.snd.fst) = true →
 (IntKind.wrap IntKind.i64 (a_1 + (1 : Int)) = IntKind.wrap IntKind.i64 (a_1 + (1 : Int)) ∧
 IntKind.wrap IntKind.i64
 ((List.getD x.fst (Int.toNat a_1) (Ty.dflt t83)).snd.fst.snd.fst -
 (List.getD x.fst (Int.toNat a_1) (Ty.dflt t83)).fst.snd.fst) =
 IntKind.wrap IntKind.i64
 ((List.getD x.fst (Int.toNat a_1) (Ty.dflt t83)).snd.fst.snd.fst -
 (List.getD x.fst (Int.toNat a_1) (Ty.dflt t83)).fst.snd.fst) ∧
 x.snd.fst = x.snd.fst ∧
 x.snd.snd.fst = x.snd.snd.fst ∧
 x.fst = x.fst ∧ (↑(List.length x.fst) : Int) = (↑(List.length x.fst) : Int)) ∧
 Z
 (IntKind.wrap IntKind.i64
 ((List.getD x.fst (Int.toNat a_1) (Ty.dflt t83)).snd.fst.snd.fst -
 (List.getD x.fst (Int.toNat a_1) (Ty.dflt t83)).fst.snd.fst),
 IntKind.wrap IntKind.i64 (a_1 + (1 : Int)), ()) ∧
 μ
 (IntKind.wrap IntKind.i64
 ((List.getD x.fst (Int.toNat a_1) (Ty.dflt t83)).snd.fst.snd.fst -
 (List.getD x.fst (Int.toNat a_1) (Ty.dflt t83)).fst.snd.fst),
 IntKind.wrap IntKind.i64 (a_1 + (1 : Int)), ()) <
 μ (a, a_1, ())) ∧
 (decide (x.snd.fst > (List.getD x.fst (Int.toNat a_1) (Ty.dflt t83)).fst.snd.fst) = false →
 (IntKind.wrap IntKind.i64 (a_1 + (1 : Int)) = IntKind.wrap IntKind.i64 (a_1 + (1 : Int)) ∧
 a = a ∧
 x.snd.fst = x.snd.fst ∧
 x.snd.snd.fst = x.snd.snd.fst ∧
 x.fst = x.fst ∧ (↑(List.length x.fst) : Int) = (↑(List.length x.fst) : Int)) ∧
 Z (a, IntKind.wrap IntKind.i64 (a_1 + (1 : Int)), ()) ∧
 μ (a, IntKind.wrap IntKind.i64 (a_1 + (1 : Int)), ()) < μ (a, a_1, ())))) ∧
 (decide (a_1 < (↑(List.length x.fst) : Int)) = false →
 IntKind.wrap IntKind.i64 (x.snd.fst + a) = refMap x.snd.fst x.snd.snd.fst x.fst (0 : Int))
theorem vcEq36 : fnVC E36 Try.f36 (bodyOf Try.f36) cRefMap = vc36 := by kernel_rfl
/- fn 39 -/
def hs39 : List (Nat × Nat × Hint) := []
def nm39 : List Nat := [3000000025, 3000000026]
noncomputable def E39 : Env := env tab [] [] noGl hs39 nm39
def vc39 : Prop :=
 ∀ (x : (Int × Int × Unit) × Unit),
 True →
 (decide (x.fst.fst ≥ (0 : Int)) = true →
 (decide (x.fst.snd.fst ≥ x.fst.fst) = true → decide (x.fst.snd.fst ≤ (1099511627776 : Int)) = within x.fst) ∧
 (decide (x.fst.snd.fst ≥ x.fst.fst) = false → false = within x.fst)) ∧
 (decide (x.fst.fst ≥ (0 : Int)) = false → false = within x.fst)
theorem vcEq39 : fnVC E39 Try.f39 (bodyOf Try.f39) cWithin = vc39 := by kernel_rfl
/- fn 40 -/
def hs40 : List (Nat × Nat × Hint) := []
def nm40 : List Nat := [3000000025, 3000000026]
noncomputable def E40 : Env := env tab [] [] noGl hs40 nm40
def vc40 : Prop :=
 ∀ (x : (Int × Int × Unit) × Unit), True → IntKind.wrap IntKind.i64 (x.fst.snd.fst - x.fst.fst) = size x.fst
theorem vcEq40 : fnVC E40 Try.f40 (bodyOf Try.f40) cSize = vc40 := by kernel_rfl
/- fn 42 -/
def hs42 : List (Nat × Nat × Hint) := []
def nm42 : List Nat := [3000000025, 3000000026]
noncomputable def E42 : Env := env tab [] [] noGl hs42 nm42
def vc42 : Prop :=
 ∀ (x : (Int × Int × Unit) × Unit),
 True →
 (decide (x.fst.fst ≥ (0 : Int)) = true →
 (decide (x.fst.fst ≤ x.fst.snd.fst) = true → decide (x.fst.snd.fst ≤ (1099511627776 : Int)) = within x.fst) ∧
 (decide (x.fst.fst ≤ x.fst.snd.fst) = false → false = within x.fst)) ∧
 (decide (x.fst.fst ≥ (0 : Int)) = false → false = within x.fst)
theorem vcEq42 : fnVC E42 Try.f42 (bodyOf Try.f42) cWithin = vc42 := by kernel_rfl
end Go.Fr.C40
