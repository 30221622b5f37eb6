/-
  Conditions to be proved, function by function, printed by a program. Conditions: none.
-/
import Derived.Test.YtmjhpfbpidlbcaaC15A
namespace Go.Fr.C15
open Go Go.Fr Go.Proofs
set_option maxRecDepth 100000

/- fn 3 -/
def hs3 : List (Nat × Nat × Hint) := [(0, 9, ⟨[.slot 8 t3, .slot 52 t3], [1, 7, 50, 51], [], []⟩),
  (0, 15, ⟨[.slot 11 t3], [1, 7, 8, 10, 50, 51, 52], [10], []⟩),
  (0, 19, ⟨[.slot 12 t4, .slot 79 t3], [1, 7, 8, 10, 11, 50, 51, 52, 77, 78], [10], []⟩),
  (0, 27, ⟨[.slot 102 t3], [7, 100, 101], [], []⟩),
  (0, 31, ⟨[.slot 17 t3, .slot 108 t3], [7, 16, 100, 101, 102, 106, 107], [16], []⟩)]
def nm3 : List Nat := [3000000027]
noncomputable def E3 : Env := env tab [(8, cThree), (9, cNew), (10, cRefNew), (11, cHidden)] [] noGl hs3 nm3
def vc3 : Prop :=
 ∀ (x : Int × List Span × Unit),
 List.length x.snd.fst ≤ maxLen →
 (decide ((↑(List.length x.snd.fst) : Int) > (60 : Int)) = true → True ∧ true = true) ∧
 (decide ((↑(List.length x.snd.fst) : Int) > (60 : Int)) = false →
 (decide (x.fst > (400 : Int)) = true → True ∧ true = true) ∧
 (decide (x.fst > (400 : Int)) = false →
 List.length x.snd.fst ≤ maxLen ∧
 (((newF x.fst x.snd.fst).snd.fst != (0 : Int)) = true →
 List.length x.snd.fst ≤ maxLen ∧
 (((newW x.fst x.snd.fst).snd.snd.fst != (0 : Int)) = true → True ∧ true = true) ∧
 (((newW x.fst x.snd.fst).snd.snd.fst != (0 : Int)) = false → false = true)) ∧
 (((newF x.fst x.snd.fst).snd.fst != (0 : Int)) = false →
 (Option.isNone (newF x.fst x.snd.fst).fst = true →
 List.length x.snd.fst ≤ maxLen ∧
 (((newW x.fst x.snd.fst).snd.snd.fst != (0 : Int)) = true → True ∧ true = true) ∧
 (((newW x.fst x.snd.fst).snd.snd.fst != (0 : Int)) = false → false = true)) ∧
 (Option.isNone (newF x.fst x.snd.fst).fst = false →
 List.length (hidF (newF x.fst x.snd.fst).fst) ≤ (10000 : Nat) ∧
 ((0 : Int) = (0 : Int) ∧
 (0 : Int) = (0 : Int) ∧
 x.snd.fst = x.snd.fst ∧
 hidF (newF x.fst x.snd.fst).fst = hidF (newF x.fst x.snd.fst).fst ∧
 hidF (newF x.fst x.snd.fst).fst = hidF (newF x.fst x.snd.fst).fst ∧
 (↑(List.length (hidF (newF x.fst x.snd.fst).fst)) : Int) =
 (↑(List.length (hidF (newF x.fst x.snd.fst).fst)) : Int)) ∧
 ∃ (Z : Int × Int × Unit → Prop),
 ∃ (μ : Int × Int × Unit → Nat),
 Z ((0 : Int), (0 : Int), ()) ∧
 ∀ (a a_1 : Int),
 Z (a, a_1, ()) →
 (decide (a_1 < (↑(List.length (hidF (newF x.fst x.snd.fst).fst)) : Int)) = true →
 ((0 : Int) ≤ a_1 ∧
 a_1 < (↑(List.length (hidF (newF x.fst x.snd.fst).fst)) : Int)) ∧
 (decide
 ((List.getD (hidF (newF x.fst x.snd.fst).fst) (Int.toNat a_1)
 (Ty.dflt t33)).fst <
 a) =
 true →
 false = true) ∧
 (decide
 ((List.getD (hidF (newF x.fst x.snd.fst).fst) (Int.toNat a_1)
 (Ty.dflt t33)).fst <
 a) =
 false →
 (decide
 ((List.getD (hidF (newF x.fst x.snd.fst).fst) (Int.toNat a_1)
 (Ty.dflt t33)).snd.fst ≤
 (List.getD (hidF (newF x.fst x.snd.fst).fst) (Int.toNat a_1)
 (Ty.dflt t33)).fst) =
 true →
 false = true) ∧
 (decide
 ((List.getD (hidF (newF x.fst x.snd.fst).fst) (Int.toNat a_1)
 (Ty.dflt t33)).snd.fst ≤
 (List.getD (hidF (newF x.fst x.snd.fst).fst) (Int.toNat a_1)
 (Ty.dflt t33)).fst) =
 false →
 (((List.getD (hidF (newF x.fst x.snd.fst).fst) (Int.toNat a_1)
 (Ty.dflt t33)).fst =
 (List.getD (hidF (newF x.fst x.snd.fst).fst) (Int.toNat a_1)
 (Ty.dflt t33)).fst ∧
 x.snd.fst = x.snd.fst ∧
 hidF (newF x.fst x.snd.fst).fst =
 hidF (newF x.fst x.snd.fst).fst ∧
 (List.getD (hidF (newF x.fst x.snd.fst).fst) (Int.toNat a_1)
 (Ty.dflt t33)).snd.fst =
 (List.getD (hidF (newF x.fst x.snd.fst).fst)
 (Int.toNat a_1) (Ty.dflt t33)).snd.fst ∧
 True ∧
 hidF (newF x.fst x.snd.fst).fst =
 hidF (newF x.fst x.snd.fst).fst ∧
 (↑(List.length (hidF (newF x.fst x.snd.fst).fst)) :
 Int) =
 (↑(List.length
 (hidF (newF x.fst x.snd.fst).fst)) :
 Int) ∧
 a_1 = a_1) ∧
 (List.getD (hidF (newF x.fst x.snd.fst).fst) (Int.toNat a_1)
 (Ty.dflt t33)).fst =
 (List.getD (hidF (newF x.fst x.snd.fst).fst) (Int.toNat a_1)
 (Ty.dflt t33)).fst ∧
 (List.getD (hidF (newF x.fst x.snd.fst).fst) (Int.toNat a_1)
 (Ty.dflt t33)).snd.fst =
 (List.getD (hidF (newF x.fst x.snd.fst).fst) (Int.toNat a_1)
 (Ty.dflt t33)).snd.fst) ∧
 ∃ (Z_1 : Int × Unit → Prop),
 ∃ (μ_1 : Int × Unit → Nat),
 Z_1
 ((List.getD (hidF (newF x.fst x.snd.fst).fst)
 (Int.toNat a_1) (Ty.dflt t33)).fst,
 ()) ∧
 ∀ (a_6 : Int),
 Z_1 (a_6, ()) →
 (decide
 (a_6 <
 (List.getD (hidF (newF x.fst x.snd.fst).fst)
 (Int.toNat a_1) (Ty.dflt t33)).snd.fst) =
 true →
 (((0 : Int) = (0 : Int) ∧
 false = false ∧
 x.snd.fst = x.snd.fst ∧
 hidF (newF x.fst x.snd.fst).fst =
 hidF (newF x.fst x.snd.fst).fst ∧
 (List.getD
 (hidF
 (newF x.fst x.snd.fst).fst)
 (Int.toNat a_1)
 (Ty.dflt t33)).snd.fst =
 (List.getD
 (hidF
 (newF x.fst x.snd.fst).fst)
 (Int.toNat a_1)
 (Ty.dflt t33)).snd.fst ∧
 True ∧
 a_6 = a_6 ∧
 hidF (newF x.fst x.snd.fst).fst =
 hidF
 (newF x.fst x.snd.fst).fst ∧
 (↑(List.length
 (hidF
 (newF x.fst
 x.snd.fst).fst)) :
 Int) =
 (↑(List.length
 (hidF
 (newF x.fst
 x.snd.fst).fst)) :
 Int) ∧
 a_1 = a_1 ∧
 x.snd.fst = x.snd.fst ∧
 (↑(List.length x.snd.fst) :
 Int) =
 (↑(List.length
 x.snd.fst) :
 Int)) ∧
 (List.getD (hidF (newF x.fst x.snd.fst).fst)
 (Int.toNat a_1) (Ty.dflt t33)).fst =
 (List.getD (hidF (newF x.fst x.snd.fst).fst)
 (Int.toNat a_1) (Ty.dflt t33)).fst ∧
 (List.getD (hidF (newF x.fst x.snd.fst).fst)
 (Int.toNat a_1) (Ty.dflt t33)).snd.fst =
 (List.getD (hidF (newF x.fst x.snd.fst).fst)
 (Int.toNat a_1)
 (Ty.dflt t33)).snd.fst) ∧
 ∃ (Z : Bool × Int × Unit → Prop),
 ∃ (μ : Bool × Int × Unit → Nat),
 Z (false, (0 : Int), ()) ∧
 ∀ (a : Bool) (a_8 : Int),
 Z (a, a_8, ()) →
 (decide
 (a_8 <
 (↑(List.length x.snd.fst) :
 Int)) =
 true →
 ((0 : Int) ≤ a_8 ∧
 a_8 <
 (↑(List.length x.snd.fst) :
 Int)) ∧
 (a = true →
 ((IntKind.wrap IntKind.i64
 (a_8 + (1 : Int)) =
 IntKind.wrap IntKind.i64
 (a_8 + (1 : Int)) ∧
 true = true ∧
 x.snd.fst = x.snd.fst ∧
 hidF
 (newF x.fst
 x.snd.fst).fst =
 hidF
 (newF x.fst
 x.snd.fst).fst ∧
 (List.getD
 (hidF
 (newF
 x.fst
 x.snd.fst).fst)
 (Int.toNat
 a_1)
 (Ty.dflt
 t33)).snd.fst =
 (List.getD
 (hidF
 (newF
 x.fst
 x.snd.fst).fst)
 (Int.toNat
 a_1)
 (Ty.dflt
 t33)).snd.fst ∧
 True ∧
 a_6 = a_6 ∧
 hidF
 (newF
 x.fst
 x.snd.fst).fst =
 hidF
 (newF
 x.fst
 x.snd.fst).fst ∧
 (↑(List.length
 (hidF
 (newF
 x.fst
 x.snd.fst).fst)) :
 Int) =
 (↑(List.length
 (hidF
 (newF
 x.fst
 x.snd.fst).fst)) :
 Int) ∧
 a_1 =
 a_1 ∧
 x.snd.fst =
 x.snd.fst ∧
 (↑(List.length
 x.snd.fst) :
 Int) =
 (↑(List.length
 x.snd.fst) :
 Int)) ∧
 (List.getD
 (hidF
 (newF x.fst
 x.snd.fst).fst)
 (Int.toNat a_1)
 (Ty.dflt t33)).fst =
 (List.getD
 (hidF
 (newF x.fst
 x.snd.fst).fst)
 (Int.toNat a_1)
 (Ty.dflt t33)).fst ∧
 (List.getD
 (hidF
 (newF x.fst
 x.snd.fst).fst)
 (Int.toNat a_1)
 (Ty.dflt
 t33)).snd.fst =
 (List.getD
 (hidF
 (newF x.fst
 x.snd.fst).fst)
 (Int.toNat a_1)
 (Ty.dflt
 t33)).snd.fst) ∧
 Z
 (true,
 IntKind.wrap IntKind.i64
 (a_8 + (1 : Int)),
 ()) ∧
 μ
 (true,
 IntKind.wrap
 IntKind.i64
 (a_8 + (1 : Int)),
 ()) <
 μ (a, a_8, ())) ∧
 (a = false →
 (decide
 ((List.getD x.snd.fst
 (Int.toNat a_8)
 (Ty.dflt
 t33)).fst ≤
 a_6) =
 true →
 ((IntKind.wrap IntKind.i64
 (a_8 +
 (1 : Int)) =
 IntKind.wrap
 IntKind.i64
 (a_8 +
 (1 : Int)) ∧
 decide
 (a_6 <
 (List.getD
 x.snd.fst
 (Int.toNat
 a_8)
 (Ty.dflt
 t33)).snd.fst) =
 decide
 (a_6 <
 (List.getD
 x.snd.fst
 (Int.toNat
 a_8)
 (Ty.dflt
 t33)).snd.fst) ∧
 x.snd.fst =
 x.snd.fst ∧
 hidF
 (newF x.fst
 x.snd.fst).fst =
 hidF
 (newF x.fst
 x.snd.fst).fst ∧
 (List.getD
 (hidF
 (newF
 x.fst
 x.snd.fst).fst)
 (Int.toNat
 a_1)
 (Ty.dflt
 t33)).snd.fst =
 (List.getD
 (hidF
 (newF
 x.fst
 x.snd.fst).fst)
 (Int.toNat
 a_1)
 (Ty.dflt
 t33)).snd.fst ∧
 True ∧
 a_6 = a_6 ∧
 hidF
 (newF
 x.fst
 x.snd.fst).fst =
 hidF
 (newF
 x.fst
 x.snd.fst).fst ∧
 (↑(List.length
 (hidF
 (newF
 x.fst
 x.snd.fst).fst)) :
 Int) =
 (↑(List.length
 (hidF
 (newF
 x.fst
 x.snd.fst).fst)) :
 Int) ∧
 a_1 =
 a_1 ∧
 x.snd.fst =
 x.snd.fst ∧
 (↑(List.length
 x.snd.fst) :
 Int) =
 (↑(List.length
 x.snd.fst) :
 Int)) ∧
 (List.getD
 (hidF
 (newF x.fst
 x.snd.fst).fst)
 (Int.toNat a_1)
 (Ty.dflt
 t33)).fst =
 (List.getD
 (hidF
 (newF x.fst
 x.snd.fst).fst)
 (Int.toNat a_1)
 (Ty.dflt
 t33)).fst ∧
 (List.getD
 (hidF
 (newF x.fst
 x.snd.fst).fst)
 (Int.toNat
 a_1)
 (Ty.dflt
 t33)).snd.fst =
 (List.getD
 (hidF
 (newF x.fst
 x.snd.fst).fst)
 (Int.toNat
 a_1)
 (Ty.dflt
 t33)).snd.fst) ∧
 Z
 (decide
 (a_6 <
 (List.getD
 x.snd.fst
 (Int.toNat
 a_8)
 (Ty.dflt
 t33)).snd.fst),
 IntKind.wrap
 IntKind.i64
 (a_8 + (1 : Int)),
 ()) ∧
 μ
 (decide
 (a_6 <
 (List.getD
 x.snd.fst
 (Int.toNat
 a_8)
 (Ty.dflt
 t33)).snd.fst),
 IntKind.wrap
 IntKind.i64
 (a_8 +
 (1 : Int)),
 ()) <
 μ (a, a_8, ())) ∧
 (decide
 ((List.getD x.snd.fst
 (Int.toNat a_8)
 (Ty.dflt
 t33)).fst ≤
 a_6) =
 false →
 ((IntKind.wrap IntKind.i64
 (a_8 +
 (1 : Int)) =
 IntKind.wrap
 IntKind.i64
 (a_8 +
 (1 : Int)) ∧
 false = false ∧
 x.snd.fst =
 x.snd.fst ∧
 hidF
 (newF x.fst
 x.snd.fst).fst =
 hidF
 (newF x.fst
 x.snd.fst).fst ∧
 (List.getD
 (hidF
 (newF
 x.fst
 x.snd.fst).fst)
 (Int.toNat
 a_1)
 (Ty.dflt
 t33)).snd.fst =
 (List.getD
 (hidF
 (newF
 x.fst
 x.snd.fst).fst)
 (Int.toNat
 a_1)
 (Ty.dflt
 t33)).snd.fst ∧
 True ∧
 a_6 = a_6 ∧
 hidF
 (newF
 x.fst
 x.snd.fst).fst =
 hidF
 (newF
 x.fst
 x.snd.fst).fst ∧
 (↑(List.length
 (hidF
 (newF
 x.fst
 x.snd.fst).fst)) :
 Int) =
 (↑(List.length
 (hidF
 (newF
 x.fst
 x.snd.fst).fst)) :
 Int) ∧
 a_1 =
 a_1 ∧
 x.snd.fst =
 x.snd.fst ∧
 (↑(List.length
 x.snd.fst) :
 Int) =
 (↑(List.length
 x.snd.fst) :
 Int)) ∧
 (List.getD
 (hidF
 (newF x.fst
 x.snd.fst).fst)
 (Int.toNat a_1)
 (Ty.dflt
 t33)).fst =
 (List.getD
 (hidF
 (newF x.fst
 x.snd.fst).fst)
 (Int.toNat a_1)
 (Ty.dflt
 t33)).fst ∧
 (List.getD
 (hidF
 (newF x.fst
 x.snd.fst).fst)
 (Int.toNat
 a_1)
 (Ty.dflt
 t33)).snd.fst =
 (List.getD
 (hidF
 (newF x.fst
 x.snd.fst).fst)
 (Int.toNat
 a_1)
 (Ty.dflt
 t33)).snd.fst) ∧
 Z
 (false,
 IntKind.wrap
 IntKind.i64
 (a_8 + (1 : Int)),
 ()) ∧
 μ
 (false,
 IntKind.wrap
 IntKind.i64
 (a_8 +
 (1 : Int)),
 ()) <
 μ (a, a_8, ())))) ∧
 (decide
 (a_8 <
 (↑(List.length x.snd.fst) :
 Int)) =
 false →
 ((!a) = true → false = true) ∧
 ((!a) = false →
 ((IntKind.wrap IntKind.i64
 (a_6 + (1 : Int)) =
 IntKind.wrap IntKind.i64
 (a_6 + (1 : Int)) ∧
 x.snd.fst = x.snd.fst ∧
 hidF
 (newF x.fst
 x.snd.fst).fst =
 hidF
 (newF x.fst
 x.snd.fst).fst ∧
 (List.getD
 (hidF
 (newF x.fst
 x.snd.fst).fst)
 (Int.toNat
 a_1)
 (Ty.dflt
 t33)).snd.fst =
 (List.getD
 (hidF
 (newF x.fst
 x.snd.fst).fst)
 (Int.toNat
 a_1)
 (Ty.dflt
 t33)).snd.fst ∧
 True ∧
 hidF
 (newF x.fst
 x.snd.fst).fst =
 hidF
 (newF x.fst
 x.snd.fst).fst ∧
 (↑(List.length
 (hidF
 (newF
 x.fst
 x.snd.fst).fst)) :
 Int) =
 (↑(List.length
 (hidF
 (newF
 x.fst
 x.snd.fst).fst)) :
 Int) ∧
 a_1 = a_1) ∧
 (List.getD
 (hidF
 (newF x.fst
 x.snd.fst).fst)
 (Int.toNat a_1)
 (Ty.dflt t33)).fst =
 (List.getD
 (hidF
 (newF x.fst
 x.snd.fst).fst)
 (Int.toNat a_1)
 (Ty.dflt t33)).fst ∧
 (List.getD
 (hidF
 (newF x.fst
 x.snd.fst).fst)
 (Int.toNat a_1)
 (Ty.dflt
 t33)).snd.fst =
 (List.getD
 (hidF
 (newF x.fst
 x.snd.fst).fst)
 (Int.toNat a_1)
 (Ty.dflt
 t33)).snd.fst) ∧
 Z_1
 (IntKind.wrap IntKind.i64
 (a_6 + (1 : Int)),
 ()) ∧
 μ_1
 (IntKind.wrap IntKind.i64
 (a_6 + (1 : Int)),
 ()) <
 μ_1 (a_6, ())))) ∧
 (decide
 (a_6 <
 (List.getD (hidF (newF x.fst x.snd.fst).fst)
 (Int.toNat a_1) (Ty.dflt t33)).snd.fst) =
 false →
 (IntKind.wrap IntKind.i64 (a_1 + (1 : Int)) =
 IntKind.wrap IntKind.i64 (a_1 + (1 : Int)) ∧
 (List.getD (hidF (newF x.fst x.snd.fst).fst)
 (Int.toNat a_1) (Ty.dflt t33)).snd.fst =
 (List.getD (hidF (newF x.fst x.snd.fst).fst)
 (Int.toNat a_1) (Ty.dflt t33)).snd.fst ∧
 x.snd.fst = x.snd.fst ∧
 hidF (newF x.fst x.snd.fst).fst =
 hidF (newF x.fst x.snd.fst).fst ∧
 hidF (newF x.fst x.snd.fst).fst =
 hidF (newF x.fst x.snd.fst).fst ∧
 (↑(List.length
 (hidF
 (newF x.fst x.snd.fst).fst)) :
 Int) =
 (↑(List.length
 (hidF
 (newF x.fst x.snd.fst).fst)) :
 Int)) ∧
 Z
 ((List.getD (hidF (newF x.fst x.snd.fst).fst)
 (Int.toNat a_1) (Ty.dflt t33)).snd.fst,
 IntKind.wrap IntKind.i64 (a_1 + (1 : Int)),
 ()) ∧
 μ
 ((List.getD (hidF (newF x.fst x.snd.fst).fst)
 (Int.toNat a_1)
 (Ty.dflt t33)).snd.fst,
 IntKind.wrap IntKind.i64 (a_1 + (1 : Int)),
 ()) <
 μ (a, a_1, ()))))) ∧
 (decide (a_1 < (↑(List.length (hidF (newF x.fst x.snd.fst).fst)) : Int)) = false →
 ((0 : Int) = (0 : Int) ∧
 hidF (newF x.fst x.snd.fst).fst = hidF (newF x.fst x.snd.fst).fst ∧
 x.snd.fst = x.snd.fst ∧
 (↑(List.length x.snd.fst) : Int) = (↑(List.length x.snd.fst) : Int)) ∧
 ∃ (Z : Int × Unit → Prop),
 ∃ (μ : Int × Unit → Nat),
 Z ((0 : Int), ()) ∧
 ∀ (a : Int),
 Z (a, ()) →
 (decide (a < (↑(List.length x.snd.fst) : Int)) = true →
 ((0 : Int) ≤ a ∧ a < (↑(List.length x.snd.fst) : Int)) ∧
 (((0 : Int) = (0 : Int) ∧
 (0 : Int) = (0 : Int) ∧
 hidF (newF x.fst x.snd.fst).fst =
 hidF (newF x.fst x.snd.fst).fst ∧
 True ∧
 x.snd.fst = x.snd.fst ∧
 (↑(List.length x.snd.fst) : Int) =
 (↑(List.length x.snd.fst) : Int) ∧
 a = a ∧
 hidF (newF x.fst x.snd.fst).fst =
 hidF (newF x.fst x.snd.fst).fst ∧
 (↑(List.length
 (hidF
 (newF x.fst x.snd.fst).fst)) :
 Int) =
 (↑(List.length
 (hidF
 (newF x.fst x.snd.fst).fst)) :
 Int)) ∧
 (List.getD x.snd.fst (Int.toNat a) (Ty.dflt t33)).fst =
 (List.getD x.snd.fst (Int.toNat a)
 (Ty.dflt t33)).fst ∧
 (List.getD x.snd.fst (Int.toNat a)
 (Ty.dflt t33)).snd.fst =
 (List.getD x.snd.fst (Int.toNat a)
 (Ty.dflt t33)).snd.fst) ∧
 ∃ (Z_1 : Int × Int × Unit → Prop),
 ∃ (μ_1 : Int × Int × Unit → Nat),
 Z_1 ((0 : Int), (0 : Int), ()) ∧
 ∀ (a_5 a_6 : Int),
 Z_1 (a_5, a_6, ()) →
 (decide
 (a_6 <
 (↑(List.length
 (hidF
 (newF x.fst x.snd.fst).fst)) :
 Int)) =
 true →
 ((0 : Int) ≤ a_6 ∧
 a_6 <
 (↑(List.length
 (hidF
 (newF x.fst x.snd.fst).fst)) :
 Int)) ∧
 (decide
 ((List.getD
 (hidF
 (newF x.fst x.snd.fst).fst)
 (Int.toNat a_6)
 (Ty.dflt t33)).fst ≤
 (List.getD x.snd.fst (Int.toNat a)
 (Ty.dflt t33)).fst) =
 true →
 (decide
 ((List.getD x.snd.fst
 (Int.toNat a)
 (Ty.dflt t33)).snd.fst ≤
 (List.getD
 (hidF
 (newF x.fst
 x.snd.fst).fst)
 (Int.toNat a_6)
 (Ty.dflt
 t33)).snd.fst) =
 true →
 ((IntKind.wrap IntKind.i64
 (a_6 + (1 : Int)) =
 IntKind.wrap IntKind.i64
 (a_6 + (1 : Int)) ∧
 IntKind.wrap IntKind.i64
 (a_5 + (1 : Int)) =
 IntKind.wrap IntKind.i64
 (a_5 + (1 : Int)) ∧
 hidF
 (newF x.fst
 x.snd.fst).fst =
 hidF
 (newF x.fst
 x.snd.fst).fst ∧
 True ∧
 x.snd.fst = x.snd.fst ∧
 (↑(List.length
 x.snd.fst) :
 Int) =
 (↑(List.length
 x.snd.fst) :
 Int) ∧
 a = a ∧
 hidF
 (newF x.fst
 x.snd.fst).fst =
 hidF
 (newF x.fst
 x.snd.fst).fst ∧
 (↑(List.length
 (hidF
 (newF
 x.fst
 x.snd.fst).fst)) :
 Int) =
 (↑(List.length
 (hidF
 (newF
 x.fst
 x.snd.fst).fst)) :
 Int)) ∧
 (List.getD x.snd.fst
 (Int.toNat a)
 (Ty.dflt t33)).fst =
 (List.getD x.snd.fst
 (Int.toNat a)
 (Ty.dflt t33)).fst ∧
 (List.getD x.snd.fst
 (Int.toNat a)
 (Ty.dflt
 t33)).snd.fst =
 (List.getD x.snd.fst
 (Int.toNat a)
 (Ty.dflt
 t33)).snd.fst) ∧
 Z_1
 (IntKind.wrap IntKind.i64
 (a_5 + (1 : Int)),
 IntKind.wrap IntKind.i64
 (a_6 + (1 : Int)),
 ()) ∧
 μ_1
 (IntKind.wrap IntKind.i64
 (a_5 + (1 : Int)),
 IntKind.wrap IntKind.i64
 (a_6 + (1 : Int)),
 ()) <
 μ_1 (a_5, a_6, ())) ∧
 (decide
 ((List.getD x.snd.fst
 (Int.toNat a)
 (Ty.dflt t33)).snd.fst ≤
 (List.getD
 (hidF
 (newF x.fst
 x.snd.fst).fst)
 (Int.toNat a_6)
 (Ty.dflt
 t33)).snd.fst) =
 false →
 ((IntKind.wrap IntKind.i64
 (a_6 + (1 : Int)) =
 IntKind.wrap IntKind.i64
 (a_6 + (1 : Int)) ∧
 a_5 = a_5 ∧
 hidF
 (newF x.fst
 x.snd.fst).fst =
 hidF
 (newF x.fst
 x.snd.fst).fst ∧
 True ∧
 x.snd.fst = x.snd.fst ∧
 (↑(List.length
 x.snd.fst) :
 Int) =
 (↑(List.length
 x.snd.fst) :
 Int) ∧
 a = a ∧
 hidF
 (newF x.fst
 x.snd.fst).fst =
 hidF
 (newF x.fst
 x.snd.fst).fst ∧
 (↑(List.length
 (hidF
 (newF
 x.fst
 x.snd.fst).fst)) :
 Int) =
 (↑(List.length
 (hidF
 (newF
 x.fst
 x.snd.fst).fst)) :
 Int)) ∧
 (List.getD x.snd.fst
 (Int.toNat a)
 (Ty.dflt t33)).fst =
 (List.getD x.snd.fst
 (Int.toNat a)
 (Ty.dflt t33)).fst ∧
 (List.getD x.snd.fst
 (Int.toNat a)
 (Ty.dflt
 t33)).snd.fst =
 (List.getD x.snd.fst
 (Int.toNat a)
 (Ty.dflt
 t33)).snd.fst) ∧
 Z_1
 (a_5,
 IntKind.wrap IntKind.i64
 (a_6 + (1 : Int)),
 ()) ∧
 μ_1
 (a_5,
 IntKind.wrap IntKind.i64
 (a_6 + (1 : Int)),
 ()) <
 μ_1 (a_5, a_6, ()))) ∧
 (decide
 ((List.getD
 (hidF
 (newF x.fst x.snd.fst).fst)
 (Int.toNat a_6)
 (Ty.dflt t33)).fst ≤
 (List.getD x.snd.fst (Int.toNat a)
 (Ty.dflt t33)).fst) =
 false →
 ((IntKind.wrap IntKind.i64
 (a_6 + (1 : Int)) =
 IntKind.wrap IntKind.i64
 (a_6 + (1 : Int)) ∧
 a_5 = a_5 ∧
 hidF
 (newF x.fst
 x.snd.fst).fst =
 hidF
 (newF x.fst
 x.snd.fst).fst ∧
 True ∧
 x.snd.fst = x.snd.fst ∧
 (↑(List.length
 x.snd.fst) :
 Int) =
 (↑(List.length
 x.snd.fst) :
 Int) ∧
 a = a ∧
 hidF
 (newF x.fst
 x.snd.fst).fst =
 hidF
 (newF x.fst
 x.snd.fst).fst ∧
 (↑(List.length
 (hidF
 (newF
 x.fst
 x.snd.fst).fst)) :
 Int) =
 (↑(List.length
 (hidF
 (newF
 x.fst
 x.snd.fst).fst)) :
 Int)) ∧
 (List.getD x.snd.fst (Int.toNat a)
 (Ty.dflt t33)).fst =
 (List.getD x.snd.fst
 (Int.toNat a)
 (Ty.dflt t33)).fst ∧
 (List.getD x.snd.fst (Int.toNat a)
 (Ty.dflt t33)).snd.fst =
 (List.getD x.snd.fst
 (Int.toNat a)
 (Ty.dflt t33)).snd.fst) ∧
 Z_1
 (a_5,
 IntKind.wrap IntKind.i64
 (a_6 + (1 : Int)),
 ()) ∧
 μ_1
 (a_5,
 IntKind.wrap IntKind.i64
 (a_6 + (1 : Int)),
 ()) <
 μ_1 (a_5, a_6, ()))) ∧
 (decide
 (a_6 <
 (↑(List.length
 (hidF
 (newF x.fst x.snd.fst).fst)) :
 Int)) =
 false →
 ((a_5 != (1 : Int)) = true → false = true) ∧
 ((a_5 != (1 : Int)) = false →
 (IntKind.wrap IntKind.i64
 (a + (1 : Int)) =
 IntKind.wrap IntKind.i64
 (a + (1 : Int)) ∧
 hidF (newF x.fst x.snd.fst).fst =
 hidF (newF x.fst x.snd.fst).fst ∧
 x.snd.fst = x.snd.fst ∧
 (↑(List.length x.snd.fst) : Int) =
 (↑(List.length x.snd.fst) :
 Int)) ∧
 Z
 (IntKind.wrap IntKind.i64
 (a + (1 : Int)),
 ()) ∧
 μ
 (IntKind.wrap IntKind.i64
 (a + (1 : Int)),
 ()) <
 μ (a, ())))) ∧
 (decide (a < (↑(List.length x.snd.fst) : Int)) = false →
 True ∧ true = true))))))
theorem vcEq3 : fnVC E3 Try.f3 (bodyOf Try.f3) cFoldsHide = vc3 := by kernel_rfl
/- fn 4 -/
def hs4 : List (Nat × Nat × Hint) := []
def nm4 : List Nat := [3000000027]
noncomputable def E4 : Env := env tab [(8, cThree), (9, cNew), (10, cRefNew), (12, cIs), (13, cOver), (14, cRefOver)] [] noGl hs4 nm4
def vc4 : Prop :=
 ∀ (x : Int × List Span × Int × Unit),
 List.length x.snd.fst ≤ maxLen →
 (decide ((↑(List.length x.snd.fst) : Int) > (150 : Int)) = true → True ∧ true = true) ∧
 (decide ((↑(List.length x.snd.fst) : Int) > (150 : Int)) = false →
 List.length x.snd.fst ≤ maxLen ∧
 List.length x.snd.fst ≤ maxLen ∧
 (List.length (allF (newF x.fst x.snd.fst).fst) ≤ (10000 : Nat) ∧
 List.length (hidF (newF x.fst x.snd.fst).fst) ≤ (10000 : Nat) ∧ RightL (newW x.fst x.snd.fst).snd.fst) ∧
 ((!isF (newF x.fst x.snd.fst).fst (newF x.fst x.snd.fst).snd.fst (newW x.fst x.snd.fst)) = true →
 false = true) ∧
 ((!isF (newF x.fst x.snd.fst).fst (newF x.fst x.snd.fst).snd.fst (newW x.fst x.snd.fst)) = false →
 (Option.isNone (newF x.fst x.snd.fst).fst = true → True ∧ true = true) ∧
 (Option.isNone (newF x.fst x.snd.fst).fst = false →
 List.length (hidF (newF x.fst x.snd.fst).fst) ≤ (10000 : Nat) ∧
 RightL (newW x.fst x.snd.fst).snd.fst ∧
 (decide ((overW (hideL (newW x.fst x.snd.fst).snd.fst) x.snd.snd.fst).fst < (0 : Int)) =
 true →
 ((!(overF (newF x.fst x.snd.fst).fst x.snd.snd.fst).snd.fst) = true →
 (Ty.beq t33 (overF (newF x.fst x.snd.fst).fst x.snd.snd.fst).fst
 ((0 : Int), (0 : Int), ()) =
 true →
 True ∧ true = true) ∧
 (Ty.beq t33 (overF (newF x.fst x.snd.fst).fst x.snd.snd.fst).fst
 ((0 : Int), (0 : Int), ()) =
 false →
 false = true)) ∧
 ((!(overF (newF x.fst x.snd.fst).fst x.snd.snd.fst).snd.fst) = false → false = true)) ∧
 (decide ((overW (hideL (newW x.fst x.snd.fst).snd.fst) x.snd.snd.fst).fst < (0 : Int)) =
 false →
 ((overF (newF x.fst x.snd.fst).fst x.snd.snd.fst).snd.fst = true →
 (Ty.beq t33 (overF (newF x.fst x.snd.fst).fst x.snd.snd.fst).fst
 (overW (hideL (newW x.fst x.snd.fst).snd.fst) x.snd.snd.fst) =
 true →
 True ∧ true = true) ∧
 (Ty.beq t33 (overF (newF x.fst x.snd.fst).fst x.snd.snd.fst).fst
 (overW (hideL (newW x.fst x.snd.fst).snd.fst) x.snd.snd.fst) =
 false →
 false = true)) ∧
 ((overF (newF x.fst x.snd.fst).fst x.snd.snd.fst).snd.fst = false → false = true)))))
theorem vcEq4 : fnVC E4 Try.f4 (bodyOf Try.f4) cFoldsNew = vc4 := by kernel_rfl
/- fn 5 -/
def hs5 : List (Nat × Nat × Hint) := []
def nm5 : List Nat := [3000000027]
noncomputable def E5 : Env := env tab [(8, cThree), (9, cNew), (10, cRefNew), (15, cShift), (16, cAll)] [] noGl hs5 nm5
def vc5 : Prop :=
 ∀ (x : Int × Chg),
 True →
 (decide (x.fst < (0 : Int)) = true → True ∧ true = true) ∧
 (decide (x.fst < (0 : Int)) = false →
 (decide (x.fst > (1073741824 : Int)) = true → True ∧ true = true) ∧
 (decide (x.fst > (1073741824 : Int)) = false →
 ((0 : Int) ≤ (0 : Int) ∧ (0 : Int) < (↑(2 : Nat) : Int)) ∧
 (decide (x.snd.snd.fst.fst < (0 : Int)) = true → True ∧ true = true) ∧
 (decide (x.snd.snd.fst.fst < (0 : Int)) = false →
 ((0 : Int) ≤ (0 : Int) ∧ (0 : Int) < (↑(2 : Nat) : Int)) ∧
 (decide (x.snd.snd.fst.fst > x.fst) = true → True ∧ true = true) ∧
 (decide (x.snd.snd.fst.fst > x.fst) = false →
 ((0 : Int) ≤ (1 : Int) ∧ (1 : Int) < (↑(2 : Nat) : Int)) ∧
 (decide (x.snd.snd.fst.snd.fst < (1 : Int)) = true → True ∧ true = true) ∧
 (decide (x.snd.snd.fst.snd.fst < (1 : Int)) = false →
 ((0 : Int) ≤ (1 : Int) ∧ (1 : Int) < (↑(2 : Nat) : Int)) ∧
 (decide (x.snd.snd.fst.snd.fst > (1000 : Int)) = true → True ∧ true = true) ∧
 (decide (x.snd.snd.fst.snd.fst > (1000 : Int)) = false →
 List.length [x.snd.fst] ≤ maxLen ∧
 (((newF x.fst [x.snd.fst]).snd.fst != (0 : Int)) = true →
 List.length [x.snd.fst] ≤ maxLen ∧
 (((newW x.fst [x.snd.fst]).snd.snd.fst != (0 : Int)) = true →
 True ∧ true = true) ∧
 (((newW x.fst [x.snd.fst]).snd.snd.fst != (0 : Int)) = false →
 false = true)) ∧
 (((newF x.fst [x.snd.fst]).snd.fst != (0 : Int)) = false →
 (Option.isNone (newF x.fst [x.snd.fst]).fst = true →
 List.length [x.snd.fst] ≤ maxLen ∧
 (((newW x.fst [x.snd.fst]).snd.snd.fst != (0 : Int)) = true →
 True ∧ true = true) ∧
 (((newW x.fst [x.snd.fst]).snd.snd.fst != (0 : Int)) = false →
 false = true)) ∧
 (Option.isNone (newF x.fst [x.snd.fst]).fst = false →
 ((0 : Int) ≤ (0 : Int) ∧ (0 : Int) < (↑(2 : Nat) : Int)) ∧
 ((0 : Int) ≤ (0 : Int) ∧ (0 : Int) < (↑(2 : Nat) : Int)) ∧
 ((0 : Int) ≤ (0 : Int) ∧ (0 : Int) < (↑(2 : Nat) : Int)) ∧
 ((0 : Int) ≤ (0 : Int) ∧ (0 : Int) < (↑(2 : Nat) : Int)) ∧
 ((0 : Int) ≤ (1 : Int) ∧ (1 : Int) < (↑(2 : Nat) : Int)) ∧
 (okF (newF x.fst [x.snd.fst]).fst ∧
 lenF (newF x.fst [x.snd.fst]).fst ≤ (1099511627776 : Int) ∧
 (0 : Int) ≤ lenF (newF x.fst [x.snd.fst]).fst ∧
 List.length
 [((x.snd.snd.fst.fst, x.snd.snd.fst.fst, ()),
 (x.snd.snd.fst.fst,
 IntKind.wrap IntKind.i64
 (x.snd.snd.fst.fst + x.snd.snd.fst.snd.fst),
 ()),
 ())] ≤
 (1000 : Nat)) ∧
 (((shiftF (newF x.fst [x.snd.fst]).fst
 [((x.snd.snd.fst.fst, x.snd.snd.fst.fst, ()),
 (x.snd.snd.fst.fst,
 IntKind.wrap IntKind.i64
 (x.snd.snd.fst.fst +
 x.snd.snd.fst.snd.fst),
 ()),
 ())]).snd.fst !=
 (0 : Int)) =
 true →
 false = true) ∧
 (((shiftF (newF x.fst [x.snd.fst]).fst
 [((x.snd.snd.fst.fst, x.snd.snd.fst.fst, ()),
 (x.snd.snd.fst.fst,
 IntKind.wrap IntKind.i64
 (x.snd.snd.fst.fst +
 x.snd.snd.fst.snd.fst),
 ()),
 ())]).snd.fst !=
 (0 : Int)) =
 false →
 (Option.isNone
 (shiftF (newF x.fst [x.snd.fst]).fst
 [((x.snd.snd.fst.fst, x.snd.snd.fst.fst, ()),
 (x.snd.snd.fst.fst,
 IntKind.wrap IntKind.i64
 (x.snd.snd.fst.fst +
 x.snd.snd.fst.snd.fst),
 ()),
 ())]).fst =
 true →
 false = true) ∧
 (Option.isNone
 (shiftF (newF x.fst [x.snd.fst]).fst
 [((x.snd.snd.fst.fst, x.snd.snd.fst.fst, ()),
 (x.snd.snd.fst.fst,
 IntKind.wrap IntKind.i64
 (x.snd.snd.fst.fst +
 x.snd.snd.fst.snd.fst),
 ()),
 ())]).fst =
 false →
 List.length
 (allF
 (shiftF (newF x.fst [x.snd.fst]).fst
 [((x.snd.snd.fst.fst, x.snd.snd.fst.fst,
 ()),
 (x.snd.snd.fst.fst,
 IntKind.wrap IntKind.i64
 (x.snd.snd.fst.fst +
 x.snd.snd.fst.snd.fst),
 ()),
 ())]).fst) ≤
 (10000 : Nat) ∧
 (((↑(List.length
 (allF
 (shiftF (newF x.fst [x.snd.fst]).fst
 [((x.snd.snd.fst.fst,
 x.snd.snd.fst.fst, ()),
 (x.snd.snd.fst.fst,
 IntKind.wrap IntKind.i64
 (x.snd.snd.fst.fst +
 x.snd.snd.fst.snd.fst),
 ()),
 ())]).fst)) :
 Int) !=
 (1 : Int)) =
 true →
 false = true) ∧
 (((↑(List.length
 (allF
 (shiftF (newF x.fst [x.snd.fst]).fst
 [((x.snd.snd.fst.fst,
 x.snd.snd.fst.fst, ()),
 (x.snd.snd.fst.fst,
 IntKind.wrap IntKind.i64
 (x.snd.snd.fst.fst +
 x.snd.snd.fst.snd.fst),
 ()),
 ())]).fst)) :
 Int) !=
 (1 : Int)) =
 false →
 ((0 : Int) ≤ (0 : Int) ∧
 (0 : Int) < (↑(2 : Nat) : Int)) ∧
 (decide (x.snd.snd.fst.fst ≤ x.snd.fst.fst) =
 true →
 ((0 : Int) ≤ (1 : Int) ∧
 (1 : Int) < (↑(2 : Nat) : Int)) ∧
 ((0 : Int) ≤ (0 : Int) ∧
 (0 : Int) < (↑(2 : Nat) : Int)) ∧
 (decide
 (x.snd.snd.fst.fst <
 x.snd.fst.snd.fst) =
 true →
 ((0 : Int) ≤ (1 : Int) ∧
 (1 : Int) <
 (↑(2 : Nat) : Int)) ∧
 ((0 : Int) ≤ (0 : Int) ∧
 (0 : Int) <
 (↑(List.length
 (allF
 (shiftF
 (newF x.fst
 [x.snd.fst]).fst
 [((x.snd.snd.fst.fst,
 x.snd.snd.fst.fst,
 ()),
 (x.snd.snd.fst.fst,
 IntKind.wrap
 IntKind.i64
 (x.snd.snd.fst.fst +
 x.snd.snd.fst.snd.fst),
 ()),
 ())]).fst)) :
 Int)) ∧
 (Ty.beq t33
 (List.getD
 (allF
 (shiftF
 (newF x.fst
 [x.snd.fst]).fst
 [((x.snd.snd.fst.fst,
 x.snd.snd.fst.fst,
 ()),
 (x.snd.snd.fst.fst,
 IntKind.wrap
 IntKind.i64
 (x.snd.snd.fst.fst +
 x.snd.snd.fst.snd.fst),
 ()),
 ())]).fst)
 (Int.toNat
 (0 : Int))
 (Ty.dflt t33))
 (IntKind.wrap
 IntKind.i64
 (x.snd.fst.fst +
 x.snd.snd.fst.snd.fst),
 IntKind.wrap
 IntKind.i64
 (x.snd.fst.snd.fst +
 x.snd.snd.fst.snd.fst),
 ()) =
 true →
 True ∧ true = true) ∧
 (Ty.beq t33
 (List.getD
 (allF
 (shiftF
 (newF x.fst
 [x.snd.fst]).fst
 [((x.snd.snd.fst.fst,
 x.snd.snd.fst.fst,
 ()),
 (x.snd.snd.fst.fst,
 IntKind.wrap
 IntKind.i64
 (x.snd.snd.fst.fst +
 x.snd.snd.fst.snd.fst),
 ()),
 ())]).fst)
 (Int.toNat
 (0 : Int))
 (Ty.dflt t33))
 (IntKind.wrap
 IntKind.i64
 (x.snd.fst.fst +
 x.snd.snd.fst.snd.fst),
 IntKind.wrap
 IntKind.i64
 (x.snd.fst.snd.fst +
 x.snd.snd.fst.snd.fst),
 ()) =
 false →
 false = true)) ∧
 (decide
 (x.snd.snd.fst.fst <
 x.snd.fst.snd.fst) =
 false →
 ((0 : Int) ≤ (0 : Int) ∧
 (0 : Int) <
 (↑(List.length
 (allF
 (shiftF
 (newF x.fst
 [x.snd.fst]).fst
 [((x.snd.snd.fst.fst,
 x.snd.snd.fst.fst,
 ()),
 (x.snd.snd.fst.fst,
 IntKind.wrap
 IntKind.i64
 (x.snd.snd.fst.fst +
 x.snd.snd.fst.snd.fst),
 ()),
 ())]).fst)) :
 Int)) ∧
 (Ty.beq t33
 (List.getD
 (allF
 (shiftF
 (newF x.fst
 [x.snd.fst]).fst
 [((x.snd.snd.fst.fst,
 x.snd.snd.fst.fst,
 ()),
 (x.snd.snd.fst.fst,
 IntKind.wrap
 IntKind.i64
 (x.snd.snd.fst.fst +
 x.snd.snd.fst.snd.fst),
 ()),
 ())]).fst)
 (Int.toNat (0 : Int))
 (Ty.dflt t33))
 (IntKind.wrap
 IntKind.i64
 (x.snd.fst.fst +
 x.snd.snd.fst.snd.fst),
 x.snd.fst.snd) =
 true →
 True ∧ true = true) ∧
 (Ty.beq t33
 (List.getD
 (allF
 (shiftF
 (newF x.fst
 [x.snd.fst]).fst
 [((x.snd.snd.fst.fst,
 x.snd.snd.fst.fst,
 ()),
 (x.snd.snd.fst.fst,
 IntKind.wrap
 IntKind.i64
 (x.snd.snd.fst.fst +
 x.snd.snd.fst.snd.fst),
 ()),
 ())]).fst)
 (Int.toNat (0 : Int))
 (Ty.dflt t33))
 (IntKind.wrap
 IntKind.i64
 (x.snd.fst.fst +
 x.snd.snd.fst.snd.fst),
 x.snd.fst.snd) =
 false →
 false = true))) ∧
 (decide
 (x.snd.snd.fst.fst ≤ x.snd.fst.fst) =
 false →
 ((0 : Int) ≤ (0 : Int) ∧
 (0 : Int) < (↑(2 : Nat) : Int)) ∧
 (decide
 (x.snd.snd.fst.fst <
 x.snd.fst.snd.fst) =
 true →
 ((0 : Int) ≤ (1 : Int) ∧
 (1 : Int) <
 (↑(2 : Nat) : Int)) ∧
 ((0 : Int) ≤ (0 : Int) ∧
 (0 : Int) <
 (↑(List.length
 (allF
 (shiftF
 (newF x.fst
 [x.snd.fst]).fst
 [((x.snd.snd.fst.fst,
 x.snd.snd.fst.fst,
 ()),
 (x.snd.snd.fst.fst,
 IntKind.wrap
 IntKind.i64
 (x.snd.snd.fst.fst +
 x.snd.snd.fst.snd.fst),
 ()),
 ())]).fst)) :
 Int)) ∧
 (Ty.beq t33
 (List.getD
 (allF
 (shiftF
 (newF x.fst
 [x.snd.fst]).fst
 [((x.snd.snd.fst.fst,
 x.snd.snd.fst.fst,
 ()),
 (x.snd.snd.fst.fst,
 IntKind.wrap
 IntKind.i64
 (x.snd.snd.fst.fst +
 x.snd.snd.fst.snd.fst),
 ()),
 ())]).fst)
 (Int.toNat (0 : Int))
 (Ty.dflt t33))
 (x.snd.fst.fst,
 IntKind.wrap
 IntKind.i64
 (x.snd.fst.snd.fst +
 x.snd.snd.fst.snd.fst),
 ()) =
 true →
 True ∧ true = true) ∧
 (Ty.beq t33
 (List.getD
 (allF
 (shiftF
 (newF x.fst
 [x.snd.fst]).fst
 [((x.snd.snd.fst.fst,
 x.snd.snd.fst.fst,
 ()),
 (x.snd.snd.fst.fst,
 IntKind.wrap
 IntKind.i64
 (x.snd.snd.fst.fst +
 x.snd.snd.fst.snd.fst),
 ()),
 ())]).fst)
 (Int.toNat (0 : Int))
 (Ty.dflt t33))
 (x.snd.fst.fst,
 IntKind.wrap
 IntKind.i64
 (x.snd.fst.snd.fst +
 x.snd.snd.fst.snd.fst),
 ()) =
 false →
 false = true)) ∧
 (decide
 (x.snd.snd.fst.fst <
 x.snd.fst.snd.fst) =
 false →
 ((0 : Int) ≤ (0 : Int) ∧
 (0 : Int) <
 (↑(List.length
 (allF
 (shiftF
 (newF x.fst
 [x.snd.fst]).fst
 [((x.snd.snd.fst.fst,
 x.snd.snd.fst.fst,
 ()),
 (x.snd.snd.fst.fst,
 IntKind.wrap
 IntKind.i64
 (x.snd.snd.fst.fst +
 x.snd.snd.fst.snd.fst),
 ()),
 ())]).fst)) :
 Int)) ∧
 (Ty.beq t33
 (List.getD
 (allF
 (shiftF
 (newF x.fst
 [x.snd.fst]).fst
 [((x.snd.snd.fst.fst,
 x.snd.snd.fst.fst,
 ()),
 (x.snd.snd.fst.fst,
 IntKind.wrap
 IntKind.i64
 (x.snd.snd.fst.fst +
 x.snd.snd.fst.snd.fst),
 ()),
 ())]).fst)
 (Int.toNat (0 : Int))
 (Ty.dflt t33))
 x.snd.fst =
 true →
 True ∧ true = true) ∧
 (Ty.beq t33
 (List.getD
 (allF
 (shiftF
 (newF x.fst
 [x.snd.fst]).fst
 [((x.snd.snd.fst.fst,
 x.snd.snd.fst.fst,
 ()),
 (x.snd.snd.fst.fst,
 IntKind.wrap
 IntKind.i64
 (x.snd.snd.fst.fst +
 x.snd.snd.fst.snd.fst),
 ()),
 ())]).fst)
 (Int.toNat (0 : Int))
 (Ty.dflt t33))
 x.snd.fst =
 false →
 false = true))))))))))))))
theorem vcEq5 : fnVC E5 Try.f5 (bodyOf Try.f5) cFoldsGrow = vc5 := by kernel_rfl
/- fn 6 -/
def hs6 : List (Nat × Nat × Hint) := [(0, 10, ⟨[.slot 7 t24, .slot 44 t3, .cell 9 0 t3, .cell 9 1 t22, .cell 9 2 t3], [9, 42, 43], [9], []⟩)]
def nm6 : List Nat := [3000000027]
noncomputable def E6 : Env := env tab [(8, cThree), (9, cNew), (10, cRefNew), (12, cIs), (17, cAdd), (18, cRefAdd), (19, cRemove), (20, cRefRemove), (15, cShift), (22, cChanges), (21, cRefShift)] [] noGl hs6 nm6
def vc6 : Prop :=
 ∀
 (x :
 Int ×
 List Span ×
 List (Int × Span × List Chg × Unit) × Unit),
 (List.length x.snd.fst ≤ maxLen ∧
 List.length x.snd.snd.fst ≤ maxLen ∧ ∀ (o : Ty.den t48), o ∈ x.snd.snd.fst → List.length o.snd.snd.fst ≤ maxLen) →
 (decide ((↑(List.length x.snd.fst) : Int) > (80 : Int)) = true → True ∧ true = true) ∧
 (decide ((↑(List.length x.snd.fst) : Int) > (80 : Int)) = false →
 (decide ((↑(List.length x.snd.snd.fst) : Int) > (30 : Int)) = true → True ∧ true = true) ∧
 (decide ((↑(List.length x.snd.snd.fst) : Int) > (30 : Int)) = false →
 List.length x.snd.fst ≤ maxLen ∧
 List.length x.snd.fst ≤ maxLen ∧
 (List.length (allF (newF x.fst x.snd.fst).fst) ≤ (10000 : Nat) ∧
 List.length (hidF (newF x.fst x.snd.fst).fst) ≤ (10000 : Nat) ∧
 RightL (newW x.fst x.snd.fst).snd.fst) ∧
 ((!isF (newF x.fst x.snd.fst).fst (newF x.fst x.snd.fst).snd.fst (newW x.fst x.snd.fst)) = true →
 false = true) ∧
 ((!isF (newF x.fst x.snd.fst).fst (newF x.fst x.snd.fst).snd.fst (newW x.fst x.snd.fst)) = false →
 (Option.isNone (newF x.fst x.snd.fst).fst = true → True ∧ true = true) ∧
 (Option.isNone (newF x.fst x.snd.fst).fst = false →
 (((0 : Int) = (0 : Int) ∧
 (newF x.fst x.snd.fst).fst = (newF x.fst x.snd.fst).fst ∧
 True ∧
 x.snd.snd.fst = x.snd.snd.fst ∧
 (↑(List.length x.snd.snd.fst) : Int) = (↑(List.length x.snd.snd.fst) : Int)) ∧
 (newW x.fst x.snd.fst).fst = (newW x.fst x.snd.fst).fst ∧
 (newW x.fst x.snd.fst).snd.fst = (newW x.fst x.snd.fst).snd.fst ∧
 (newW x.fst x.snd.fst).snd.snd.fst = (newW x.fst x.snd.fst).snd.snd.fst) ∧
 ∃ (Z :
 Option (Int × List Span × List Span × Unit) ×
 Int × Int × List Span × Int × Unit →
 Prop),
 ∃ (μ :
 Option (Int × List Span × List Span × Unit) ×
 Int × Int × List Span × Int × Unit →
 Nat),
 Z ((newF x.fst x.snd.fst).fst, (0 : Int), newW x.fst x.snd.fst) ∧
 ∀ (a : Option (Int × List Span × List Span × Unit))
 (a_1 a_2 : Int) (a_3 : List Span) (a_4 : Int),
 Z (a, a_1, a_2, a_3, a_4, ()) →
 (decide (a_1 < (↑(List.length x.snd.snd.fst) : Int)) = true →
 ((0 : Int) ≤ a_1 ∧ a_1 < (↑(List.length x.snd.snd.fst) : Int)) ∧
 (((List.getD x.snd.snd.fst (Int.toNat a_1) (Ty.dflt t48)).fst ==
 (0 : Int)) =
 true →
 (((List.getD x.snd.snd.fst (Int.toNat a_1) (Ty.dflt t48)).fst ==
 (0 : Int)) =
 true →
 List.length (allF a) ≤ (10000 : Nat) ∧
 List.length a_3 ≤ (10000 : Nat) ∧
 (List.length
 (allF
 (newF (lenF a)
 (allF a ++
 [(List.getD x.snd.snd.fst (Int.toNat a_1)
 (Ty.dflt t48)).snd.fst])).fst) ≤
 (10000 : Nat) ∧
 List.length
 (hidF
 (newF (lenF a)
 (allF a ++
 [(List.getD x.snd.snd.fst (Int.toNat a_1)
 (Ty.dflt t48)).snd.fst])).fst) ≤
 (10000 : Nat) ∧
 RightL
 (newW a_2
 (a_3 ++
 [(List.getD x.snd.snd.fst (Int.toNat a_1)
 (Ty.dflt t48)).snd.fst])).snd.fst) ∧
 ((!isF
 (newF (lenF a)
 (allF a ++
 [(List.getD x.snd.snd.fst (Int.toNat a_1)
 (Ty.dflt t48)).snd.fst])).fst
 (newF (lenF a)
 (allF a ++
 [(List.getD x.snd.snd.fst (Int.toNat a_1)
 (Ty.dflt t48)).snd.fst])).snd.fst
 (newW a_2
 (a_3 ++
 [(List.getD x.snd.snd.fst (Int.toNat a_1)
 (Ty.dflt t48)).snd.fst]))) =
 true →
 false = true) ∧
 ((!isF
 (newF (lenF a)
 (allF a ++
 [(List.getD x.snd.snd.fst (Int.toNat a_1)
 (Ty.dflt t48)).snd.fst])).fst
 (newF (lenF a)
 (allF a ++
 [(List.getD x.snd.snd.fst (Int.toNat a_1)
 (Ty.dflt t48)).snd.fst])).snd.fst
 (newW a_2
 (a_3 ++
 [(List.getD x.snd.snd.fst (Int.toNat a_1)
 (Ty.dflt t48)).snd.fst]))) =
 false →
 (List.length (allF a) ≤ (10000 : Nat) ∧
 List.length (hidF a) ≤ (10000 : Nat) ∧ RightL a_3) ∧
 ((!isF a (0 : Int) (a_2, a_3, a_4, ())) = true →
 false = true) ∧
 ((!isF a (0 : Int) (a_2, a_3, a_4, ())) = false →
 (Option.isSome
 (newF (lenF a)
 (allF a ++
 [(List.getD x.snd.snd.fst
 (Int.toNat a_1)
 (Ty.dflt
 t48)).snd.fst])).fst =
 true →
 ((IntKind.wrap IntKind.i64 (a_1 + (1 : Int)) =
 IntKind.wrap IntKind.i64
 (a_1 + (1 : Int)) ∧
 (newF (lenF a)
 (allF a ++
 [(List.getD x.snd.snd.fst
 (Int.toNat a_1)
 (Ty.dflt
 t48)).snd.fst])).fst =
 (newF (lenF a)
 (allF a ++
 [(List.getD x.snd.snd.fst
 (Int.toNat a_1)
 (Ty.dflt
 t48)).snd.fst])).fst ∧
 True ∧
 x.snd.snd.fst = x.snd.snd.fst ∧
 (↑(List.length x.snd.snd.fst) :
 Int) =
 (↑(List.length x.snd.snd.fst) :
 Int)) ∧
 (newW a_2
 (a_3 ++
 [(List.getD x.snd.snd.fst
 (Int.toNat a_1)
 (Ty.dflt
 t48)).snd.fst])).fst =
 (newW a_2
 (a_3 ++
 [(List.getD x.snd.snd.fst
 (Int.toNat a_1)
 (Ty.dflt
 t48)).snd.fst])).fst ∧
 (newW a_2
 (a_3 ++
 [(List.getD x.snd.snd.fst
 (Int.toNat a_1)
 (Ty.dflt
 t48)).snd.fst])).snd.fst =
 (newW a_2
 (a_3 ++
 [(List.getD x.snd.snd.fst
 (Int.toNat a_1)
 (Ty.dflt
 t48)).snd.fst])).snd.fst ∧
 (newW a_2
 (a_3 ++
 [(List.getD x.snd.snd.fst
 (Int.toNat a_1)
 (Ty.dflt
 t48)).snd.fst])).snd.snd.fst =
 (newW a_2
 (a_3 ++
 [(List.getD x.snd.snd.fst
 (Int.toNat a_1)
 (Ty.dflt
 t48)).snd.fst])).snd.snd.fst) ∧
 Z
 ((newF (lenF a)
 (allF a ++
 [(List.getD x.snd.snd.fst
 (Int.toNat a_1)
 (Ty.dflt
 t48)).snd.fst])).fst,
 IntKind.wrap IntKind.i64
 (a_1 + (1 : Int)),
 newW a_2
 (a_3 ++
 [(List.getD x.snd.snd.fst
 (Int.toNat a_1)
 (Ty.dflt t48)).snd.fst])) ∧
 μ
 ((newF (lenF a)
 (allF a ++
 [(List.getD x.snd.snd.fst
 (Int.toNat a_1)
 (Ty.dflt
 t48)).snd.fst])).fst,
 IntKind.wrap IntKind.i64
 (a_1 + (1 : Int)),
 newW a_2
 (a_3 ++
 [(List.getD x.snd.snd.fst
 (Int.toNat a_1)
 (Ty.dflt
 t48)).snd.fst])) <
 μ (a, a_1, a_2, a_3, a_4, ())) ∧
 (Option.isSome
 (newF (lenF a)
 (allF a ++
 [(List.getD x.snd.snd.fst
 (Int.toNat a_1)
 (Ty.dflt
 t48)).snd.fst])).fst =
 false →
 ((IntKind.wrap IntKind.i64 (a_1 + (1 : Int)) =
 IntKind.wrap IntKind.i64
 (a_1 + (1 : Int)) ∧
 a = a ∧
 True ∧
 x.snd.snd.fst = x.snd.snd.fst ∧
 (↑(List.length x.snd.snd.fst) :
 Int) =
 (↑(List.length x.snd.snd.fst) :
 Int)) ∧
 a_2 = a_2 ∧ a_3 = a_3 ∧ a_4 = a_4) ∧
 Z
 (a,
 IntKind.wrap IntKind.i64
 (a_1 + (1 : Int)),
 a_2, a_3, a_4, ()) ∧
 μ
 (a,
 IntKind.wrap IntKind.i64
 (a_1 + (1 : Int)),
 a_2, a_3, a_4, ()) <
 μ (a, a_1, a_2, a_3, a_4, ()))))) ∧
 (((List.getD x.snd.snd.fst (Int.toNat a_1) (Ty.dflt t48)).fst ==
 (0 : Int)) =
 false →
 (((List.getD x.snd.snd.fst (Int.toNat a_1) (Ty.dflt t48)).fst ==
 (2 : Int)) =
 true →
 List.length (allF a) ≤ (10000 : Nat) ∧
 List.length a_3 ≤ (10000 : Nat) ∧
 (((removeF a
 (List.getD x.snd.snd.fst (Int.toNat a_1)
 (Ty.dflt t48)).snd.fst).snd.snd.fst ==
 (0 : Int)) =
 true →
 (((removeF a
 (List.getD x.snd.snd.fst (Int.toNat a_1)
 (Ty.dflt t48)).snd.fst).snd.fst !=
 IntKind.wrap IntKind.i64
 ((↑(List.length a_3) : Int) -
 (↑(List.length
 (removeW (a_2, a_3, a_4, ())
 (List.getD x.snd.snd.fst
 (Int.toNat a_1)
 (Ty.dflt
 t48)).snd.fst).snd.fst) :
 Int))) =
 true →
 false = true) ∧
 (((removeF a
 (List.getD x.snd.snd.fst (Int.toNat a_1)
 (Ty.dflt t48)).snd.fst).snd.fst !=
 IntKind.wrap IntKind.i64
 ((↑(List.length a_3) : Int) -
 (↑(List.length
 (removeW (a_2, a_3, a_4, ())
 (List.getD x.snd.snd.fst
 (Int.toNat a_1)
 (Ty.dflt
 t48)).snd.fst).snd.fst) :
 Int))) =
 false →
 (((removeF a
 (List.getD x.snd.snd.fst
 (Int.toNat a_1)
 (Ty.dflt
 t48)).snd.fst).snd.snd.fst !=
 (0 : Int)) =
 true →
 (((removeF a
 (List.getD x.snd.snd.fst
 (Int.toNat a_1)
 (Ty.dflt
 t48)).snd.fst).snd.fst !=
 (0 : Int)) =
 true →
 false = true) ∧
 (((removeF a
 (List.getD x.snd.snd.fst
 (Int.toNat a_1)
 (Ty.dflt
 t48)).snd.fst).snd.fst !=
 (0 : Int)) =
 false →
 (List.length
 (allF
 (removeF a
 (List.getD x.snd.snd.fst
 (Int.toNat a_1)
 (Ty.dflt
 t48)).snd.fst).fst) ≤
 (10000 : Nat) ∧
 List.length
 (hidF
 (removeF a
 (List.getD x.snd.snd.fst
 (Int.toNat a_1)
 (Ty.dflt
 t48)).snd.fst).fst) ≤
 (10000 : Nat) ∧
 RightL
 (removeW (a_2, a_3, a_4, ())
 (List.getD x.snd.snd.fst
 (Int.toNat a_1)
 (Ty.dflt
 t48)).snd.fst).snd.fst) ∧
 ((!isF
 (removeF a
 (List.getD x.snd.snd.fst
 (Int.toNat a_1)
 (Ty.dflt
 t48)).snd.fst).fst
 (removeF a
 (List.getD x.snd.snd.fst
 (Int.toNat a_1)
 (Ty.dflt
 t48)).snd.fst).snd.snd.fst
 (removeW (a_2, a_3, a_4, ())
 (List.getD x.snd.snd.fst
 (Int.toNat a_1)
 (Ty.dflt
 t48)).snd.fst)) =
 true →
 false = true) ∧
 ((!isF
 (removeF a
 (List.getD x.snd.snd.fst
 (Int.toNat a_1)
 (Ty.dflt
 t48)).snd.fst).fst
 (removeF a
 (List.getD x.snd.snd.fst
 (Int.toNat a_1)
 (Ty.dflt
 t48)).snd.fst).snd.snd.fst
 (removeW (a_2, a_3, a_4, ())
 (List.getD x.snd.snd.fst
 (Int.toNat a_1)
 (Ty.dflt
 t48)).snd.fst)) =
 false →
 (List.length (allF a) ≤
 (10000 : Nat) ∧
 List.length (hidF a) ≤
 (10000 : Nat) ∧
 RightL a_3) ∧
 ((!isF a (0 : Int)
 (a_2, a_3, a_4, ())) =
 true →
 false = true) ∧
 ((!isF a (0 : Int)
 (a_2, a_3, a_4, ())) =
 false →
 (Option.isSome
 (removeF a
 (List.getD
 x.snd.snd.fst
 (Int.toNat
 a_1)
 (Ty.dflt
 t48)).snd.fst).fst =
 true →
 ((IntKind.wrap IntKind.i64
 (a_1 +
 (1 : Int)) =
 IntKind.wrap
 IntKind.i64
 (a_1 +
 (1 : Int)) ∧
 (removeF a
 (List.getD
 x.snd.snd.fst
 (Int.toNat
 a_1)
 (Ty.dflt
 t48)).snd.fst).fst =
 (removeF a
 (List.getD
 x.snd.snd.fst
 (Int.toNat
 a_1)
 (Ty.dflt
 t48)).snd.fst).fst ∧
 True ∧
 x.snd.snd.fst =
 x.snd.snd.fst ∧
 (↑(List.length
 x.snd.snd.fst) :
 Int) =
 (↑(List.length
 x.snd.snd.fst) :
 Int)) ∧
 (removeW
 (a_2, a_3, a_4,
 ())
 (List.getD
 x.snd.snd.fst
 (Int.toNat
 a_1)
 (Ty.dflt
 t48)).snd.fst).fst =
 (removeW
 (a_2, a_3, a_4,
 ())
 (List.getD
 x.snd.snd.fst
 (Int.toNat
 a_1)
 (Ty.dflt
 t48)).snd.fst).fst ∧
 (removeW
 (a_2, a_3,
 a_4, ())
 (List.getD
 x.snd.snd.fst
 (Int.toNat
 a_1)
 (Ty.dflt
 t48)).snd.fst).snd.fst =
 (removeW
 (a_2, a_3,
 a_4, ())
 (List.getD
 x.snd.snd.fst
 (Int.toNat
 a_1)
 (Ty.dflt
 t48)).snd.fst).snd.fst ∧
 (removeW
 (a_2, a_3,
 a_4, ())
 (List.getD
 x.snd.snd.fst
 (Int.toNat
 a_1)
 (Ty.dflt
 t48)).snd.fst).snd.snd.fst =
 (removeW
 (a_2, a_3,
 a_4, ())
 (List.getD
 x.snd.snd.fst
 (Int.toNat
 a_1)
 (Ty.dflt
 t48)).snd.fst).snd.snd.fst) ∧
 Z
 ((removeF a
 (List.getD
 x.snd.snd.fst
 (Int.toNat
 a_1)
 (Ty.dflt
 t48)).snd.fst).fst,
 IntKind.wrap
 IntKind.i64
 (a_1 + (1 : Int)),
 removeW
 (a_2, a_3, a_4,
 ())
 (List.getD
 x.snd.snd.fst
 (Int.toNat
 a_1)
 (Ty.dflt
 t48)).snd.fst) ∧
 μ
 ((removeF a
 (List.getD
 x.snd.snd.fst
 (Int.toNat
 a_1)
 (Ty.dflt
 t48)).snd.fst).fst,
 IntKind.wrap
 IntKind.i64
 (a_1 +
 (1 : Int)),
 removeW
 (a_2, a_3, a_4,
 ())
 (List.getD
 x.snd.snd.fst
 (Int.toNat
 a_1)
 (Ty.dflt
 t48)).snd.fst) <
 μ
 (a, a_1, a_2, a_3,
 a_4, ())) ∧
 (Option.isSome
 (removeF a
 (List.getD
 x.snd.snd.fst
 (Int.toNat
 a_1)
 (Ty.dflt
 t48)).snd.fst).fst =
 false →
 ((IntKind.wrap IntKind.i64
 (a_1 +
 (1 : Int)) =
 IntKind.wrap
 IntKind.i64
 (a_1 +
 (1 : Int)) ∧
 a = a ∧
 True ∧
 x.snd.snd.fst =
 x.snd.snd.fst ∧
 (↑(List.length
 x.snd.snd.fst) :
 Int) =
 (↑(List.length
 x.snd.snd.fst) :
 Int)) ∧
 a_2 = a_2 ∧
 a_3 = a_3 ∧
 a_4 = a_4) ∧
 Z
 (a,
 IntKind.wrap
 IntKind.i64
 (a_1 + (1 : Int)),
 a_2, a_3, a_4, ()) ∧
 μ
 (a,
 IntKind.wrap
 IntKind.i64
 (a_1 +
 (1 : Int)),
 a_2, a_3, a_4,
 ()) <
 μ
 (a, a_1, a_2, a_3,
 a_4, ())))))) ∧
 (((removeF a
 (List.getD x.snd.snd.fst
 (Int.toNat a_1)
 (Ty.dflt
 t48)).snd.fst).snd.snd.fst !=
 (0 : Int)) =
 false →
 (List.length
 (allF
 (removeF a
 (List.getD x.snd.snd.fst
 (Int.toNat a_1)
 (Ty.dflt
 t48)).snd.fst).fst) ≤
 (10000 : Nat) ∧
 List.length
 (hidF
 (removeF a
 (List.getD x.snd.snd.fst
 (Int.toNat a_1)
 (Ty.dflt
 t48)).snd.fst).fst) ≤
 (10000 : Nat) ∧
 RightL
 (removeW (a_2, a_3, a_4, ())
 (List.getD x.snd.snd.fst
 (Int.toNat a_1)
 (Ty.dflt
 t48)).snd.fst).snd.fst) ∧
 ((!isF
 (removeF a
 (List.getD x.snd.snd.fst
 (Int.toNat a_1)
 (Ty.dflt
 t48)).snd.fst).fst
 (removeF a
 (List.getD x.snd.snd.fst
 (Int.toNat a_1)
 (Ty.dflt
 t48)).snd.fst).snd.snd.fst
 (removeW (a_2, a_3, a_4, ())
 (List.getD x.snd.snd.fst
 (Int.toNat a_1)
 (Ty.dflt t48)).snd.fst)) =
 true →
 false = true) ∧
 ((!isF
 (removeF a
 (List.getD x.snd.snd.fst
 (Int.toNat a_1)
 (Ty.dflt
 t48)).snd.fst).fst
 (removeF a
 (List.getD x.snd.snd.fst
 (Int.toNat a_1)
 (Ty.dflt
 t48)).snd.fst).snd.snd.fst
 (removeW (a_2, a_3, a_4, ())
 (List.getD x.snd.snd.fst
 (Int.toNat a_1)
 (Ty.dflt t48)).snd.fst)) =
 false →
 (List.length (allF a) ≤ (10000 : Nat) ∧
 List.length (hidF a) ≤ (10000 : Nat) ∧
 RightL a_3) ∧
 ((!isF a (0 : Int)
 (a_2, a_3, a_4, ())) =
 true →
 false = true) ∧
 ((!isF a (0 : Int)
 (a_2, a_3, a_4, ())) =
 false →
 (Option.isSome
 (removeF a
 (List.getD x.snd.snd.fst
 (Int.toNat a_1)
 (Ty.dflt
 t48)).snd.fst).fst =
 true →
 ((IntKind.wrap IntKind.i64
 (a_1 + (1 : Int)) =
 IntKind.wrap IntKind.i64
 (a_1 + (1 : Int)) ∧
 (removeF a
 (List.getD
 x.snd.snd.fst
 (Int.toNat
 a_1)
 (Ty.dflt
 t48)).snd.fst).fst =
 (removeF a
 (List.getD
 x.snd.snd.fst
 (Int.toNat
 a_1)
 (Ty.dflt
 t48)).snd.fst).fst ∧
 True ∧
 x.snd.snd.fst =
 x.snd.snd.fst ∧
 (↑(List.length
 x.snd.snd.fst) :
 Int) =
 (↑(List.length
 x.snd.snd.fst) :
 Int)) ∧
 (removeW (a_2, a_3, a_4, ())
 (List.getD
 x.snd.snd.fst
 (Int.toNat
 a_1)
 (Ty.dflt
 t48)).snd.fst).fst =
 (removeW
 (a_2, a_3, a_4, ())
 (List.getD
 x.snd.snd.fst
 (Int.toNat
 a_1)
 (Ty.dflt
 t48)).snd.fst).fst ∧
 (removeW
 (a_2, a_3, a_4,
 ())
 (List.getD
 x.snd.snd.fst
 (Int.toNat
 a_1)
 (Ty.dflt
 t48)).snd.fst).snd.fst =
 (removeW
 (a_2, a_3, a_4,
 ())
 (List.getD
 x.snd.snd.fst
 (Int.toNat
 a_1)
 (Ty.dflt
 t48)).snd.fst).snd.fst ∧
 (removeW
 (a_2, a_3,
 a_4, ())
 (List.getD
 x.snd.snd.fst
 (Int.toNat
 a_1)
 (Ty.dflt
 t48)).snd.fst).snd.snd.fst =
 (removeW
 (a_2, a_3,
 a_4, ())
 (List.getD
 x.snd.snd.fst
 (Int.toNat
 a_1)
 (Ty.dflt
 t48)).snd.fst).snd.snd.fst) ∧
 Z
 ((removeF a
 (List.getD
 x.snd.snd.fst
 (Int.toNat
 a_1)
 (Ty.dflt
 t48)).snd.fst).fst,
 IntKind.wrap IntKind.i64
 (a_1 + (1 : Int)),
 removeW
 (a_2, a_3, a_4, ())
 (List.getD
 x.snd.snd.fst
 (Int.toNat a_1)
 (Ty.dflt
 t48)).snd.fst) ∧
 μ
 ((removeF a
 (List.getD
 x.snd.snd.fst
 (Int.toNat
 a_1)
 (Ty.dflt
 t48)).snd.fst).fst,
 IntKind.wrap
 IntKind.i64
 (a_1 + (1 : Int)),
 removeW
 (a_2, a_3, a_4, ())
 (List.getD
 x.snd.snd.fst
 (Int.toNat
 a_1)
 (Ty.dflt
 t48)).snd.fst) <
 μ
 (a, a_1, a_2, a_3, a_4,
 ())) ∧
 (Option.isSome
 (removeF a
 (List.getD x.snd.snd.fst
 (Int.toNat a_1)
 (Ty.dflt
 t48)).snd.fst).fst =
 false →
 ((IntKind.wrap IntKind.i64
 (a_1 + (1 : Int)) =
 IntKind.wrap IntKind.i64
 (a_1 + (1 : Int)) ∧
 a = a ∧
 True ∧
 x.snd.snd.fst =
 x.snd.snd.fst ∧
 (↑(List.length
 x.snd.snd.fst) :
 Int) =
 (↑(List.length
 x.snd.snd.fst) :
 Int)) ∧
 a_2 = a_2 ∧
 a_3 = a_3 ∧ a_4 = a_4) ∧
 Z
 (a,
 IntKind.wrap IntKind.i64
 (a_1 + (1 : Int)),
 a_2, a_3, a_4, ()) ∧
 μ
 (a,
 IntKind.wrap
 IntKind.i64
 (a_1 + (1 : Int)),
 a_2, a_3, a_4, ()) <
 μ
 (a, a_1, a_2, a_3, a_4,
 ()))))))) ∧
 (((removeF a
 (List.getD x.snd.snd.fst (Int.toNat a_1)
 (Ty.dflt t48)).snd.fst).snd.snd.fst ==
 (0 : Int)) =
 false →
 (((removeF a
 (List.getD x.snd.snd.fst (Int.toNat a_1)
 (Ty.dflt
 t48)).snd.fst).snd.snd.fst !=
 (0 : Int)) =
 true →
 (((removeF a
 (List.getD x.snd.snd.fst
 (Int.toNat a_1)
 (Ty.dflt
 t48)).snd.fst).snd.fst !=
 (0 : Int)) =
 true →
 false = true) ∧
 (((removeF a
 (List.getD x.snd.snd.fst
 (Int.toNat a_1)
 (Ty.dflt
 t48)).snd.fst).snd.fst !=
 (0 : Int)) =
 false →
 (List.length
 (allF
 (removeF a
 (List.getD x.snd.snd.fst
 (Int.toNat a_1)
 (Ty.dflt
 t48)).snd.fst).fst) ≤
 (10000 : Nat) ∧
 List.length
 (hidF
 (removeF a
 (List.getD x.snd.snd.fst
 (Int.toNat a_1)
 (Ty.dflt
 t48)).snd.fst).fst) ≤
 (10000 : Nat) ∧
 RightL
 (removeW (a_2, a_3, a_4, ())
 (List.getD x.snd.snd.fst
 (Int.toNat a_1)
 (Ty.dflt
 t48)).snd.fst).snd.fst) ∧
 ((!isF
 (removeF a
 (List.getD x.snd.snd.fst
 (Int.toNat a_1)
 (Ty.dflt
 t48)).snd.fst).fst
 (removeF a
 (List.getD x.snd.snd.fst
 (Int.toNat a_1)
 (Ty.dflt
 t48)).snd.fst).snd.snd.fst
 (removeW (a_2, a_3, a_4, ())
 (List.getD x.snd.snd.fst
 (Int.toNat a_1)
 (Ty.dflt t48)).snd.fst)) =
 true →
 false = true) ∧
 ((!isF
 (removeF a
 (List.getD x.snd.snd.fst
 (Int.toNat a_1)
 (Ty.dflt
 t48)).snd.fst).fst
 (removeF a
 (List.getD x.snd.snd.fst
 (Int.toNat a_1)
 (Ty.dflt
 t48)).snd.fst).snd.snd.fst
 (removeW (a_2, a_3, a_4, ())
 (List.getD x.snd.snd.fst
 (Int.toNat a_1)
 (Ty.dflt t48)).snd.fst)) =
 false →
 (List.length (allF a) ≤ (10000 : Nat) ∧
 List.length (hidF a) ≤ (10000 : Nat) ∧
 RightL a_3) ∧
 ((!isF a (0 : Int)
 (a_2, a_3, a_4, ())) =
 true →
 false = true) ∧
 ((!isF a (0 : Int)
 (a_2, a_3, a_4, ())) =
 false →
 (Option.isSome
 (removeF a
 (List.getD x.snd.snd.fst
 (Int.toNat a_1)
 (Ty.dflt
 t48)).snd.fst).fst =
 true →
 ((IntKind.wrap IntKind.i64
 (a_1 + (1 : Int)) =
 IntKind.wrap IntKind.i64
 (a_1 + (1 : Int)) ∧
 (removeF a
 (List.getD
 x.snd.snd.fst
 (Int.toNat
 a_1)
 (Ty.dflt
 t48)).snd.fst).fst =
 (removeF a
 (List.getD
 x.snd.snd.fst
 (Int.toNat
 a_1)
 (Ty.dflt
 t48)).snd.fst).fst ∧
 True ∧
 x.snd.snd.fst =
 x.snd.snd.fst ∧
 (↑(List.length
 x.snd.snd.fst) :
 Int) =
 (↑(List.length
 x.snd.snd.fst) :
 Int)) ∧
 (removeW (a_2, a_3, a_4, ())
 (List.getD
 x.snd.snd.fst
 (Int.toNat
 a_1)
 (Ty.dflt
 t48)).snd.fst).fst =
 (removeW
 (a_2, a_3, a_4, ())
 (List.getD
 x.snd.snd.fst
 (Int.toNat
 a_1)
 (Ty.dflt
 t48)).snd.fst).fst ∧
 (removeW
 (a_2, a_3, a_4,
 ())
 (List.getD
 x.snd.snd.fst
 (Int.toNat
 a_1)
 (Ty.dflt
 t48)).snd.fst).snd.fst =
 (removeW
 (a_2, a_3, a_4,
 ())
 (List.getD
 x.snd.snd.fst
 (Int.toNat
 a_1)
 (Ty.dflt
 t48)).snd.fst).snd.fst ∧
 (removeW
 (a_2, a_3,
 a_4, ())
 (List.getD
 x.snd.snd.fst
 (Int.toNat
 a_1)
 (Ty.dflt
 t48)).snd.fst).snd.snd.fst =
 (removeW
 (a_2, a_3,
 a_4, ())
 (List.getD
 x.snd.snd.fst
 (Int.toNat
 a_1)
 (Ty.dflt
 t48)).snd.fst).snd.snd.fst) ∧
 Z
 ((removeF a
 (List.getD
 x.snd.snd.fst
 (Int.toNat
 a_1)
 (Ty.dflt
 t48)).snd.fst).fst,
 IntKind.wrap IntKind.i64
 (a_1 + (1 : Int)),
 removeW
 (a_2, a_3, a_4, ())
 (List.getD
 x.snd.snd.fst
 (Int.toNat a_1)
 (Ty.dflt
 t48)).snd.fst) ∧
 μ
 ((removeF a
 (List.getD
 x.snd.snd.fst
 (Int.toNat
 a_1)
 (Ty.dflt
 t48)).snd.fst).fst,
 IntKind.wrap
 IntKind.i64
 (a_1 + (1 : Int)),
 removeW
 (a_2, a_3, a_4, ())
 (List.getD
 x.snd.snd.fst
 (Int.toNat
 a_1)
 (Ty.dflt
 t48)).snd.fst) <
 μ
 (a, a_1, a_2, a_3, a_4,
 ())) ∧
 (Option.isSome
 (removeF a
 (List.getD x.snd.snd.fst
 (Int.toNat a_1)
 (Ty.dflt
 t48)).snd.fst).fst =
 false →
 ((IntKind.wrap IntKind.i64
 (a_1 + (1 : Int)) =
 IntKind.wrap IntKind.i64
 (a_1 + (1 : Int)) ∧
 a = a ∧
 True ∧
 x.snd.snd.fst =
 x.snd.snd.fst ∧
 (↑(List.length
 x.snd.snd.fst) :
 Int) =
 (↑(List.length
 x.snd.snd.fst) :
 Int)) ∧
 a_2 = a_2 ∧
 a_3 = a_3 ∧ a_4 = a_4) ∧
 Z
 (a,
 IntKind.wrap IntKind.i64
 (a_1 + (1 : Int)),
 a_2, a_3, a_4, ()) ∧
 μ
 (a,
 IntKind.wrap
 IntKind.i64
 (a_1 + (1 : Int)),
 a_2, a_3, a_4, ()) <
 μ
 (a, a_1, a_2, a_3, a_4,
 ())))))) ∧
 (((removeF a
 (List.getD x.snd.snd.fst (Int.toNat a_1)
 (Ty.dflt
 t48)).snd.fst).snd.snd.fst !=
 (0 : Int)) =
 false →
 (List.length
 (allF
 (removeF a
 (List.getD x.snd.snd.fst
 (Int.toNat a_1)
 (Ty.dflt t48)).snd.fst).fst) ≤
 (10000 : Nat) ∧
 List.length
 (hidF
 (removeF a
 (List.getD x.snd.snd.fst
 (Int.toNat a_1)
 (Ty.dflt t48)).snd.fst).fst) ≤
 (10000 : Nat) ∧
 RightL
 (removeW (a_2, a_3, a_4, ())
 (List.getD x.snd.snd.fst
 (Int.toNat a_1)
 (Ty.dflt
 t48)).snd.fst).snd.fst) ∧
 ((!isF
 (removeF a
 (List.getD x.snd.snd.fst
 (Int.toNat a_1)
 (Ty.dflt t48)).snd.fst).fst
 (removeF a
 (List.getD x.snd.snd.fst
 (Int.toNat a_1)
 (Ty.dflt
 t48)).snd.fst).snd.snd.fst
 (removeW (a_2, a_3, a_4, ())
 (List.getD x.snd.snd.fst
 (Int.toNat a_1)
 (Ty.dflt t48)).snd.fst)) =
 true →
 false = true) ∧
 ((!isF
 (removeF a
 (List.getD x.snd.snd.fst
 (Int.toNat a_1)
 (Ty.dflt t48)).snd.fst).fst
 (removeF a
 (List.getD x.snd.snd.fst
 (Int.toNat a_1)
 (Ty.dflt
 t48)).snd.fst).snd.snd.fst
 (removeW (a_2, a_3, a_4, ())
 (List.getD x.snd.snd.fst
 (Int.toNat a_1)
 (Ty.dflt t48)).snd.fst)) =
 false →
 (List.length (allF a) ≤ (10000 : Nat) ∧
 List.length (hidF a) ≤ (10000 : Nat) ∧
 RightL a_3) ∧
 ((!isF a (0 : Int) (a_2, a_3, a_4, ())) =
 true →
 false = true) ∧
 ((!isF a (0 : Int) (a_2, a_3, a_4, ())) =
 false →
 (Option.isSome
 (removeF a
 (List.getD x.snd.snd.fst
 (Int.toNat a_1)
 (Ty.dflt
 t48)).snd.fst).fst =
 true →
 ((IntKind.wrap IntKind.i64
 (a_1 + (1 : Int)) =
 IntKind.wrap IntKind.i64
 (a_1 + (1 : Int)) ∧
 (removeF a
 (List.getD
 x.snd.snd.fst
 (Int.toNat a_1)
 (Ty.dflt
 t48)).snd.fst).fst =
 (removeF a
 (List.getD
 x.snd.snd.fst
 (Int.toNat a_1)
 (Ty.dflt
 t48)).snd.fst).fst ∧
 True ∧
 x.snd.snd.fst =
 x.snd.snd.fst ∧
 (↑(List.length
 x.snd.snd.fst) :
 Int) =
 (↑(List.length
 x.snd.snd.fst) :
 Int)) ∧
 (removeW (a_2, a_3, a_4, ())
 (List.getD x.snd.snd.fst
 (Int.toNat a_1)
 (Ty.dflt
 t48)).snd.fst).fst =
 (removeW (a_2, a_3, a_4, ())
 (List.getD x.snd.snd.fst
 (Int.toNat a_1)
 (Ty.dflt
 t48)).snd.fst).fst ∧
 (removeW (a_2, a_3, a_4, ())
 (List.getD
 x.snd.snd.fst
 (Int.toNat
 a_1)
 (Ty.dflt
 t48)).snd.fst).snd.fst =
 (removeW
 (a_2, a_3, a_4, ())
 (List.getD
 x.snd.snd.fst
 (Int.toNat
 a_1)
 (Ty.dflt
 t48)).snd.fst).snd.fst ∧
 (removeW (a_2, a_3, a_4, ())
 (List.getD
 x.snd.snd.fst
 (Int.toNat
 a_1)
 (Ty.dflt
 t48)).snd.fst).snd.snd.fst =
 (removeW
 (a_2, a_3, a_4,
 ())
 (List.getD
 x.snd.snd.fst
 (Int.toNat
 a_1)
 (Ty.dflt
 t48)).snd.fst).snd.snd.fst) ∧
 Z
 ((removeF a
 (List.getD x.snd.snd.fst
 (Int.toNat a_1)
 (Ty.dflt
 t48)).snd.fst).fst,
 IntKind.wrap IntKind.i64
 (a_1 + (1 : Int)),
 removeW (a_2, a_3, a_4, ())
 (List.getD x.snd.snd.fst
 (Int.toNat a_1)
 (Ty.dflt
 t48)).snd.fst) ∧
 μ
 ((removeF a
 (List.getD
 x.snd.snd.fst
 (Int.toNat a_1)
 (Ty.dflt
 t48)).snd.fst).fst,
 IntKind.wrap IntKind.i64
 (a_1 + (1 : Int)),
 removeW
 (a_2, a_3, a_4, ())
 (List.getD x.snd.snd.fst
 (Int.toNat a_1)
 (Ty.dflt
 t48)).snd.fst) <
 μ
 (a, a_1, a_2, a_3, a_4,
 ())) ∧
 (Option.isSome
 (removeF a
 (List.getD x.snd.snd.fst
 (Int.toNat a_1)
 (Ty.dflt
 t48)).snd.fst).fst =
 false →
 ((IntKind.wrap IntKind.i64
 (a_1 + (1 : Int)) =
 IntKind.wrap IntKind.i64
 (a_1 + (1 : Int)) ∧
 a = a ∧
 True ∧
 x.snd.snd.fst =
 x.snd.snd.fst ∧
 (↑(List.length
 x.snd.snd.fst) :
 Int) =
 (↑(List.length
 x.snd.snd.fst) :
 Int)) ∧
 a_2 = a_2 ∧
 a_3 = a_3 ∧ a_4 = a_4) ∧
 Z
 (a,
 IntKind.wrap IntKind.i64
 (a_1 + (1 : Int)),
 a_2, a_3, a_4, ()) ∧
 μ
 (a,
 IntKind.wrap IntKind.i64
 (a_1 + (1 : Int)),
 a_2, a_3, a_4, ()) <
 μ
 (a, a_1, a_2, a_3, a_4,
 ()))))))) ∧
 (((List.getD x.snd.snd.fst (Int.toNat a_1) (Ty.dflt t48)).fst ==
 (2 : Int)) =
 false →
 (((List.getD x.snd.snd.fst (Int.toNat a_1) (Ty.dflt t48)).fst ==
 (3 : Int)) =
 true →
 (decide
 ((↑(List.length
 (List.getD x.snd.snd.fst (Int.toNat a_1)
 (Ty.dflt t48)).snd.snd.fst) :
 Int) >
 (100 : Int)) =
 true →
 True ∧ true = true) ∧
 (decide
 ((↑(List.length
 (List.getD x.snd.snd.fst (Int.toNat a_1)
 (Ty.dflt t48)).snd.snd.fst) :
 Int) >
 (100 : Int)) =
 false →
 (okF a ∧
 lenF a ≤ (1099511627776 : Int) ∧
 (0 : Int) ≤ lenF a ∧
 List.length
 (List.getD x.snd.snd.fst (Int.toNat a_1)
 (Ty.dflt t48)).snd.snd.fst ≤
 (1000 : Nat)) ∧
 List.length
 (List.getD x.snd.snd.fst (Int.toNat a_1)
 (Ty.dflt t48)).snd.snd.fst ≤
 (1000000000 : Nat) ∧
 (List.length a_3 ≤ (60 : Nat) ∧
 (∀ (m : Ty.den t33),
 m ∈
 (((a, a_1, a_2, a_3, a_4,
 ()).snd.snd.fst,
 (a, a_1, a_2, a_3, a_4,
 ()).snd.snd.snd.fst,
 (a, a_1, a_2, a_3, a_4,
 ()).snd.snd.snd.snd.fst,
 ()),
 cChanges.fn
 ((List.getD x.snd.snd.fst
 (Int.toNat
 (a, a_1, a_2, a_3,
 a_4,
 ()).snd.fst)
 (Ty.dflt
 t48)).snd.snd.fst,
 ()),
 ()).fst.snd.fst →
 okS
 (((a, a_1, a_2, a_3, a_4,
 ()).snd.snd.fst,
 (a, a_1, a_2, a_3, a_4,
 ()).snd.snd.snd.fst,
 (a, a_1, a_2, a_3, a_4,
 ()).snd.snd.snd.snd.fst,
 ()),
 cChanges.fn
 ((List.getD x.snd.snd.fst
 (Int.toNat
 (a, a_1, a_2, a_3,
 a_4,
 ()).snd.fst)
 (Ty.dflt
 t48)).snd.snd.fst,
 ()),
 ()).fst.fst
 m =
 true) ∧
 (0 : Int) ≤ a_2 ∧
 a_2 ≤ (1099511627776 : Int) ∧
 List.length
 (List.getD x.snd.snd.fst
 (Int.toNat a_1)
 (Ty.dflt t48)).snd.snd.fst ≤
 (1000 : Nat)) ∧
 (List.length
 (allF
 (shiftF a
 (List.getD x.snd.snd.fst
 (Int.toNat a_1)
 (Ty.dflt
 t48)).snd.snd.fst).fst) ≤
 (10000 : Nat) ∧
 List.length
 (hidF
 (shiftF a
 (List.getD x.snd.snd.fst
 (Int.toNat a_1)
 (Ty.dflt
 t48)).snd.snd.fst).fst) ≤
 (10000 : Nat) ∧
 RightL
 (shiftW (a_2, a_3, a_4, ())
 (List.getD x.snd.snd.fst
 (Int.toNat a_1)
 (Ty.dflt
 t48)).snd.snd.fst).snd.fst) ∧
 ((!isF
 (shiftF a
 (List.getD x.snd.snd.fst
 (Int.toNat a_1)
 (Ty.dflt
 t48)).snd.snd.fst).fst
 (shiftF a
 (List.getD x.snd.snd.fst
 (Int.toNat a_1)
 (Ty.dflt
 t48)).snd.snd.fst).snd.fst
 (shiftW (a_2, a_3, a_4, ())
 (List.getD x.snd.snd.fst
 (Int.toNat a_1)
 (Ty.dflt
 t48)).snd.snd.fst)) =
 true →
 false = true) ∧
 ((!isF
 (shiftF a
 (List.getD x.snd.snd.fst
 (Int.toNat a_1)
 (Ty.dflt
 t48)).snd.snd.fst).fst
 (shiftF a
 (List.getD x.snd.snd.fst
 (Int.toNat a_1)
 (Ty.dflt
 t48)).snd.snd.fst).snd.fst
 (shiftW (a_2, a_3, a_4, ())
 (List.getD x.snd.snd.fst
 (Int.toNat a_1)
 (Ty.dflt
 t48)).snd.snd.fst)) =
 false →
 (List.length (allF a) ≤ (10000 : Nat) ∧
 List.length (hidF a) ≤ (10000 : Nat) ∧
 RightL a_3) ∧
 ((!isF a (0 : Int) (a_2, a_3, a_4, ())) =
 true →
 false = true) ∧
 ((!isF a (0 : Int)
 (a_2, a_3, a_4, ())) =
 false →
 (Option.isSome
 (shiftF a
 (List.getD x.snd.snd.fst
 (Int.toNat a_1)
 (Ty.dflt
 t48)).snd.snd.fst).fst =
 true →
 ((IntKind.wrap IntKind.i64
 (a_1 + (1 : Int)) =
 IntKind.wrap IntKind.i64
 (a_1 + (1 : Int)) ∧
 (shiftF a
 (List.getD
 x.snd.snd.fst
 (Int.toNat
 a_1)
 (Ty.dflt
 t48)).snd.snd.fst).fst =
 (shiftF a
 (List.getD
 x.snd.snd.fst
 (Int.toNat
 a_1)
 (Ty.dflt
 t48)).snd.snd.fst).fst ∧
 True ∧
 x.snd.snd.fst =
 x.snd.snd.fst ∧
 (↑(List.length
 x.snd.snd.fst) :
 Int) =
 (↑(List.length
 x.snd.snd.fst) :
 Int)) ∧
 (shiftW (a_2, a_3, a_4, ())
 (List.getD
 x.snd.snd.fst
 (Int.toNat
 a_1)
 (Ty.dflt
 t48)).snd.snd.fst).fst =
 (shiftW
 (a_2, a_3, a_4, ())
 (List.getD
 x.snd.snd.fst
 (Int.toNat
 a_1)
 (Ty.dflt
 t48)).snd.snd.fst).fst ∧
 (shiftW (a_2, a_3, a_4, ())
 (List.getD
 x.snd.snd.fst
 (Int.toNat
 a_1)
 (Ty.dflt
 t48)).snd.snd.fst).snd.fst =
 (shiftW
 (a_2, a_3, a_4,
 ())
 (List.getD
 x.snd.snd.fst
 (Int.toNat
 a_1)
 (Ty.dflt
 t48)).snd.snd.fst).snd.fst ∧
 (shiftW
 (a_2, a_3, a_4,
 ())
 (List.getD
 x.snd.snd.fst
 (Int.toNat
 a_1)
 (Ty.dflt
 t48)).snd.snd.fst).snd.snd.fst =
 (shiftW
 (a_2, a_3, a_4,
 ())
 (List.getD
 x.snd.snd.fst
 (Int.toNat
 a_1)
 (Ty.dflt
 t48)).snd.snd.fst).snd.snd.fst) ∧
 Z
 ((shiftF a
 (List.getD
 x.snd.snd.fst
 (Int.toNat
 a_1)
 (Ty.dflt
 t48)).snd.snd.fst).fst,
 IntKind.wrap IntKind.i64
 (a_1 + (1 : Int)),
 shiftW (a_2, a_3, a_4, ())
 (List.getD x.snd.snd.fst
 (Int.toNat a_1)
 (Ty.dflt
 t48)).snd.snd.fst) ∧
 μ
 ((shiftF a
 (List.getD
 x.snd.snd.fst
 (Int.toNat
 a_1)
 (Ty.dflt
 t48)).snd.snd.fst).fst,
 IntKind.wrap IntKind.i64
 (a_1 + (1 : Int)),
 shiftW
 (a_2, a_3, a_4, ())
 (List.getD
 x.snd.snd.fst
 (Int.toNat
 a_1)
 (Ty.dflt
 t48)).snd.snd.fst) <
 μ
 (a, a_1, a_2, a_3, a_4,
 ())) ∧
 (Option.isSome
 (shiftF a
 (List.getD x.snd.snd.fst
 (Int.toNat a_1)
 (Ty.dflt
 t48)).snd.snd.fst).fst =
 false →
 ((IntKind.wrap IntKind.i64
 (a_1 + (1 : Int)) =
 IntKind.wrap IntKind.i64
 (a_1 + (1 : Int)) ∧
 a = a ∧
 True ∧
 x.snd.snd.fst =
 x.snd.snd.fst ∧
 (↑(List.length
 x.snd.snd.fst) :
 Int) =
 (↑(List.length
 x.snd.snd.fst) :
 Int)) ∧
 a_2 = a_2 ∧
 a_3 = a_3 ∧ a_4 = a_4) ∧
 Z
 (a,
 IntKind.wrap IntKind.i64
 (a_1 + (1 : Int)),
 a_2, a_3, a_4, ()) ∧
 μ
 (a,
 IntKind.wrap IntKind.i64
 (a_1 + (1 : Int)),
 a_2, a_3, a_4, ()) <
 μ
 (a, a_1, a_2, a_3, a_4,
 ())))))) ∧
 (((List.getD x.snd.snd.fst (Int.toNat a_1)
 (Ty.dflt t48)).fst ==
 (3 : Int)) =
 false →
 (List.length (allF a) ≤ (10000 : Nat) ∧
 List.length (hidF a) ≤ (10000 : Nat) ∧ RightL a_3) ∧
 ((!isF a (0 : Int) (a_2, a_3, a_4, ())) = true →
 false = true) ∧
 ((!isF a (0 : Int) (a_2, a_3, a_4, ())) = false →
 (List.length (allF a) ≤ (10000 : Nat) ∧
 List.length (hidF a) ≤ (10000 : Nat) ∧
 RightL a_3) ∧
 ((!isF a (0 : Int) (a_2, a_3, a_4, ())) = true →
 false = true) ∧
 ((!isF a (0 : Int) (a_2, a_3, a_4, ())) = false →
 (Option.isSome a = true →
 ((IntKind.wrap IntKind.i64
 (a_1 + (1 : Int)) =
 IntKind.wrap IntKind.i64
 (a_1 + (1 : Int)) ∧
 a = a ∧
 True ∧
 x.snd.snd.fst = x.snd.snd.fst ∧
 (↑(List.length x.snd.snd.fst) :
 Int) =
 (↑(List.length
 x.snd.snd.fst) :
 Int)) ∧
 a_2 = a_2 ∧ a_3 = a_3 ∧ a_4 = a_4) ∧
 Z
 (a,
 IntKind.wrap IntKind.i64
 (a_1 + (1 : Int)),
 a_2, a_3, a_4, ()) ∧
 μ
 (a,
 IntKind.wrap IntKind.i64
 (a_1 + (1 : Int)),
 a_2, a_3, a_4, ()) <
 μ (a, a_1, a_2, a_3, a_4, ())) ∧
 (Option.isSome a = false →
 ((IntKind.wrap IntKind.i64
 (a_1 + (1 : Int)) =
 IntKind.wrap IntKind.i64
 (a_1 + (1 : Int)) ∧
 a = a ∧
 True ∧
 x.snd.snd.fst = x.snd.snd.fst ∧
 (↑(List.length x.snd.snd.fst) :
 Int) =
 (↑(List.length
 x.snd.snd.fst) :
 Int)) ∧
 a_2 = a_2 ∧ a_3 = a_3 ∧ a_4 = a_4) ∧
 Z
 (a,
 IntKind.wrap IntKind.i64
 (a_1 + (1 : Int)),
 a_2, a_3, a_4, ()) ∧
 μ
 (a,
 IntKind.wrap IntKind.i64
 (a_1 + (1 : Int)),
 a_2, a_3, a_4, ()) <
 μ (a, a_1, a_2, a_3, a_4, ())))))))) ∧
 (((List.getD x.snd.snd.fst (Int.toNat a_1) (Ty.dflt t48)).fst ==
 (0 : Int)) =
 false →
 (((List.getD x.snd.snd.fst (Int.toNat a_1) (Ty.dflt t48)).fst ==
 (1 : Int)) =
 true →
 List.length (allF a) ≤ (10000 : Nat) ∧
 List.length a_3 ≤ (10000 : Nat) ∧
 (List.length
 (allF
 (newF (lenF a)
 (allF a ++
 [(List.getD x.snd.snd.fst (Int.toNat a_1)
 (Ty.dflt t48)).snd.fst])).fst) ≤
 (10000 : Nat) ∧
 List.length
 (hidF
 (newF (lenF a)
 (allF a ++
 [(List.getD x.snd.snd.fst (Int.toNat a_1)
 (Ty.dflt t48)).snd.fst])).fst) ≤
 (10000 : Nat) ∧
 RightL
 (newW a_2
 (a_3 ++
 [(List.getD x.snd.snd.fst (Int.toNat a_1)
 (Ty.dflt t48)).snd.fst])).snd.fst) ∧
 ((!isF
 (newF (lenF a)
 (allF a ++
 [(List.getD x.snd.snd.fst (Int.toNat a_1)
 (Ty.dflt t48)).snd.fst])).fst
 (newF (lenF a)
 (allF a ++
 [(List.getD x.snd.snd.fst (Int.toNat a_1)
 (Ty.dflt t48)).snd.fst])).snd.fst
 (newW a_2
 (a_3 ++
 [(List.getD x.snd.snd.fst (Int.toNat a_1)
 (Ty.dflt t48)).snd.fst]))) =
 true →
 false = true) ∧
 ((!isF
 (newF (lenF a)
 (allF a ++
 [(List.getD x.snd.snd.fst (Int.toNat a_1)
 (Ty.dflt t48)).snd.fst])).fst
 (newF (lenF a)
 (allF a ++
 [(List.getD x.snd.snd.fst (Int.toNat a_1)
 (Ty.dflt t48)).snd.fst])).snd.fst
 (newW a_2
 (a_3 ++
 [(List.getD x.snd.snd.fst (Int.toNat a_1)
 (Ty.dflt t48)).snd.fst]))) =
 false →
 (List.length (allF a) ≤ (10000 : Nat) ∧
 List.length (hidF a) ≤ (10000 : Nat) ∧ RightL a_3) ∧
 ((!isF a (0 : Int) (a_2, a_3, a_4, ())) = true →
 false = true) ∧
 ((!isF a (0 : Int) (a_2, a_3, a_4, ())) = false →
 (Option.isSome
 (newF (lenF a)
 (allF a ++
 [(List.getD x.snd.snd.fst
 (Int.toNat a_1)
 (Ty.dflt
 t48)).snd.fst])).fst =
 true →
 ((IntKind.wrap IntKind.i64 (a_1 + (1 : Int)) =
 IntKind.wrap IntKind.i64
 (a_1 + (1 : Int)) ∧
 (newF (lenF a)
 (allF a ++
 [(List.getD x.snd.snd.fst
 (Int.toNat a_1)
 (Ty.dflt
 t48)).snd.fst])).fst =
 (newF (lenF a)
 (allF a ++
 [(List.getD x.snd.snd.fst
 (Int.toNat a_1)
 (Ty.dflt
 t48)).snd.fst])).fst ∧
 True ∧
 x.snd.snd.fst = x.snd.snd.fst ∧
 (↑(List.length x.snd.snd.fst) :
 Int) =
 (↑(List.length x.snd.snd.fst) :
 Int)) ∧
 (newW a_2
 (a_3 ++
 [(List.getD x.snd.snd.fst
 (Int.toNat a_1)
 (Ty.dflt
 t48)).snd.fst])).fst =
 (newW a_2
 (a_3 ++
 [(List.getD x.snd.snd.fst
 (Int.toNat a_1)
 (Ty.dflt
 t48)).snd.fst])).fst ∧
 (newW a_2
 (a_3 ++
 [(List.getD x.snd.snd.fst
 (Int.toNat a_1)
 (Ty.dflt
 t48)).snd.fst])).snd.fst =
 (newW a_2
 (a_3 ++
 [(List.getD x.snd.snd.fst
 (Int.toNat a_1)
 (Ty.dflt
 t48)).snd.fst])).snd.fst ∧
 (newW a_2
 (a_3 ++
 [(List.getD x.snd.snd.fst
 (Int.toNat a_1)
 (Ty.dflt
 t48)).snd.fst])).snd.snd.fst =
 (newW a_2
 (a_3 ++
 [(List.getD x.snd.snd.fst
 (Int.toNat a_1)
 (Ty.dflt
 t48)).snd.fst])).snd.snd.fst) ∧
 Z
 ((newF (lenF a)
 (allF a ++
 [(List.getD x.snd.snd.fst
 (Int.toNat a_1)
 (Ty.dflt
 t48)).snd.fst])).fst,
 IntKind.wrap IntKind.i64
 (a_1 + (1 : Int)),
 newW a_2
 (a_3 ++
 [(List.getD x.snd.snd.fst
 (Int.toNat a_1)
 (Ty.dflt t48)).snd.fst])) ∧
 μ
 ((newF (lenF a)
 (allF a ++
 [(List.getD x.snd.snd.fst
 (Int.toNat a_1)
 (Ty.dflt
 t48)).snd.fst])).fst,
 IntKind.wrap IntKind.i64
 (a_1 + (1 : Int)),
 newW a_2
 (a_3 ++
 [(List.getD x.snd.snd.fst
 (Int.toNat a_1)
 (Ty.dflt
 t48)).snd.fst])) <
 μ (a, a_1, a_2, a_3, a_4, ())) ∧
 (Option.isSome
 (newF (lenF a)
 (allF a ++
 [(List.getD x.snd.snd.fst
 (Int.toNat a_1)
 (Ty.dflt
 t48)).snd.fst])).fst =
 false →
 ((IntKind.wrap IntKind.i64 (a_1 + (1 : Int)) =
 IntKind.wrap IntKind.i64
 (a_1 + (1 : Int)) ∧
 a = a ∧
 True ∧
 x.snd.snd.fst = x.snd.snd.fst ∧
 (↑(List.length x.snd.snd.fst) :
 Int) =
 (↑(List.length x.snd.snd.fst) :
 Int)) ∧
 a_2 = a_2 ∧ a_3 = a_3 ∧ a_4 = a_4) ∧
 Z
 (a,
 IntKind.wrap IntKind.i64
 (a_1 + (1 : Int)),
 a_2, a_3, a_4, ()) ∧
 μ
 (a,
 IntKind.wrap IntKind.i64
 (a_1 + (1 : Int)),
 a_2, a_3, a_4, ()) <
 μ (a, a_1, a_2, a_3, a_4, ()))))) ∧
 (((List.getD x.snd.snd.fst (Int.toNat a_1) (Ty.dflt t48)).fst ==
 (1 : Int)) =
 false →
 (((List.getD x.snd.snd.fst (Int.toNat a_1) (Ty.dflt t48)).fst ==
 (2 : Int)) =
 true →
 List.length (allF a) ≤ (10000 : Nat) ∧
 List.length a_3 ≤ (10000 : Nat) ∧
 (((removeF a
 (List.getD x.snd.snd.fst (Int.toNat a_1)
 (Ty.dflt t48)).snd.fst).snd.snd.fst ==
 (0 : Int)) =
 true →
 (((removeF a
 (List.getD x.snd.snd.fst (Int.toNat a_1)
 (Ty.dflt t48)).snd.fst).snd.fst !=
 IntKind.wrap IntKind.i64
 ((↑(List.length a_3) : Int) -
 (↑(List.length
 (removeW (a_2, a_3, a_4, ())
 (List.getD x.snd.snd.fst
 (Int.toNat a_1)
 (Ty.dflt
 t48)).snd.fst).snd.fst) :
 Int))) =
 true →
 false = true) ∧
 (((removeF a
 (List.getD x.snd.snd.fst (Int.toNat a_1)
 (Ty.dflt t48)).snd.fst).snd.fst !=
 IntKind.wrap IntKind.i64
 ((↑(List.length a_3) : Int) -
 (↑(List.length
 (removeW (a_2, a_3, a_4, ())
 (List.getD x.snd.snd.fst
 (Int.toNat a_1)
 (Ty.dflt
 t48)).snd.fst).snd.fst) :
 Int))) =
 false →
 (((removeF a
 (List.getD x.snd.snd.fst
 (Int.toNat a_1)
 (Ty.dflt
 t48)).snd.fst).snd.snd.fst !=
 (0 : Int)) =
 true →
 (((removeF a
 (List.getD x.snd.snd.fst
 (Int.toNat a_1)
 (Ty.dflt
 t48)).snd.fst).snd.fst !=
 (0 : Int)) =
 true →
 false = true) ∧
 (((removeF a
 (List.getD x.snd.snd.fst
 (Int.toNat a_1)
 (Ty.dflt
 t48)).snd.fst).snd.fst !=
 (0 : Int)) =
 false →
 (List.length
 (allF
 (removeF a
 (List.getD x.snd.snd.fst
 (Int.toNat a_1)
 (Ty.dflt
 t48)).snd.fst).fst) ≤
 (10000 : Nat) ∧
 List.length
 (hidF
 (removeF a
 (List.getD x.snd.snd.fst
 (Int.toNat a_1)
 (Ty.dflt
 t48)).snd.fst).fst) ≤
 (10000 : Nat) ∧
 RightL
 (removeW (a_2, a_3, a_4, ())
 (List.getD x.snd.snd.fst
 (Int.toNat a_1)
 (Ty.dflt
 t48)).snd.fst).snd.fst) ∧
 ((!isF
 (removeF a
 (List.getD x.snd.snd.fst
 (Int.toNat a_1)
 (Ty.dflt
 t48)).snd.fst).fst
 (removeF a
 (List.getD x.snd.snd.fst
 (Int.toNat a_1)
 (Ty.dflt
 t48)).snd.fst).snd.snd.fst
 (removeW (a_2, a_3, a_4, ())
 (List.getD x.snd.snd.fst
 (Int.toNat a_1)
 (Ty.dflt
 t48)).snd.fst)) =
 true →
 false = true) ∧
 ((!isF
 (removeF a
 (List.getD x.snd.snd.fst
 (Int.toNat a_1)
 (Ty.dflt
 t48)).snd.fst).fst
 (removeF a
 (List.getD x.snd.snd.fst
 (Int.toNat a_1)
 (Ty.dflt
 t48)).snd.fst).snd.snd.fst
 (removeW (a_2, a_3, a_4, ())
 (List.getD x.snd.snd.fst
 (Int.toNat a_1)
 (Ty.dflt
 t48)).snd.fst)) =
 false →
 (List.length (allF a) ≤
 (10000 : Nat) ∧
 List.length (hidF a) ≤
 (10000 : Nat) ∧
 RightL a_3) ∧
 ((!isF a (0 : Int)
 (a_2, a_3, a_4, ())) =
 true →
 false = true) ∧
 ((!isF a (0 : Int)
 (a_2, a_3, a_4, ())) =
 false →
 (Option.isSome
 (removeF a
 (List.getD
 x.snd.snd.fst
 (Int.toNat
 a_1)
 (Ty.dflt
 t48)).snd.fst).fst =
 true →
 ((IntKind.wrap IntKind.i64
 (a_1 +
 (1 : Int)) =
 IntKind.wrap
 IntKind.i64
 (a_1 +
 (1 : Int)) ∧
 (removeF a
 (List.getD
 x.snd.snd.fst
 (Int.toNat
 a_1)
 (Ty.dflt
 t48)).snd.fst).fst =
 (removeF a
 (List.getD
 x.snd.snd.fst
 (Int.toNat
 a_1)
 (Ty.dflt
 t48)).snd.fst).fst ∧
 True ∧
 x.snd.snd.fst =
 x.snd.snd.fst ∧
 (↑(List.length
 x.snd.snd.fst) :
 Int) =
 (↑(List.length
 x.snd.snd.fst) :
 Int)) ∧
 (removeW
 (a_2, a_3, a_4,
 ())
 (List.getD
 x.snd.snd.fst
 (Int.toNat
 a_1)
 (Ty.dflt
 t48)).snd.fst).fst =
 (removeW
 (a_2, a_3, a_4,
 ())
 (List.getD
 x.snd.snd.fst
 (Int.toNat
 a_1)
 (Ty.dflt
 t48)).snd.fst).fst ∧
 (removeW
 (a_2, a_3,
 a_4, ())
 (List.getD
 x.snd.snd.fst
 (Int.toNat
 a_1)
 (Ty.dflt
 t48)).snd.fst).snd.fst =
 (removeW
 (a_2, a_3,
 a_4, ())
 (List.getD
 x.snd.snd.fst
 (Int.toNat
 a_1)
 (Ty.dflt
 t48)).snd.fst).snd.fst ∧
 (removeW
 (a_2, a_3,
 a_4, ())
 (List.getD
 x.snd.snd.fst
 (Int.toNat
 a_1)
 (Ty.dflt
 t48)).snd.fst).snd.snd.fst =
 (removeW
 (a_2, a_3,
 a_4, ())
 (List.getD
 x.snd.snd.fst
 (Int.toNat
 a_1)
 (Ty.dflt
 t48)).snd.fst).snd.snd.fst) ∧
 Z
 ((removeF a
 (List.getD
 x.snd.snd.fst
 (Int.toNat
 a_1)
 (Ty.dflt
 t48)).snd.fst).fst,
 IntKind.wrap
 IntKind.i64
 (a_1 + (1 : Int)),
 removeW
 (a_2, a_3, a_4,
 ())
 (List.getD
 x.snd.snd.fst
 (Int.toNat
 a_1)
 (Ty.dflt
 t48)).snd.fst) ∧
 μ
 ((removeF a
 (List.getD
 x.snd.snd.fst
 (Int.toNat
 a_1)
 (Ty.dflt
 t48)).snd.fst).fst,
 IntKind.wrap
 IntKind.i64
 (a_1 +
 (1 : Int)),
 removeW
 (a_2, a_3, a_4,
 ())
 (List.getD
 x.snd.snd.fst
 (Int.toNat
 a_1)
 (Ty.dflt
 t48)).snd.fst) <
 μ
 (a, a_1, a_2, a_3,
 a_4, ())) ∧
 (Option.isSome
 (removeF a
 (List.getD
 x.snd.snd.fst
 (Int.toNat
 a_1)
 (Ty.dflt
 t48)).snd.fst).fst =
 false →
 ((IntKind.wrap IntKind.i64
 (a_1 +
 (1 : Int)) =
 IntKind.wrap
 IntKind.i64
 (a_1 +
 (1 : Int)) ∧
 a = a ∧
 True ∧
 x.snd.snd.fst =
 x.snd.snd.fst ∧
 (↑(List.length
 x.snd.snd.fst) :
 Int) =
 (↑(List.length
 x.snd.snd.fst) :
 Int)) ∧
 a_2 = a_2 ∧
 a_3 = a_3 ∧
 a_4 = a_4) ∧
 Z
 (a,
 IntKind.wrap
 IntKind.i64
 (a_1 + (1 : Int)),
 a_2, a_3, a_4, ()) ∧
 μ
 (a,
 IntKind.wrap
 IntKind.i64
 (a_1 +
 (1 : Int)),
 a_2, a_3, a_4,
 ()) <
 μ
 (a, a_1, a_2, a_3,
 a_4, ())))))) ∧
 (((removeF a
 (List.getD x.snd.snd.fst
 (Int.toNat a_1)
 (Ty.dflt
 t48)).snd.fst).snd.snd.fst !=
 (0 : Int)) =
 false →
 (List.length
 (allF
 (removeF a
 (List.getD x.snd.snd.fst
 (Int.toNat a_1)
 (Ty.dflt
 t48)).snd.fst).fst) ≤
 (10000 : Nat) ∧
 List.length
 (hidF
 (removeF a
 (List.getD x.snd.snd.fst
 (Int.toNat a_1)
 (Ty.dflt
 t48)).snd.fst).fst) ≤
 (10000 : Nat) ∧
 RightL
 (removeW (a_2, a_3, a_4, ())
 (List.getD x.snd.snd.fst
 (Int.toNat a_1)
 (Ty.dflt
 t48)).snd.fst).snd.fst) ∧
 ((!isF
 (removeF a
 (List.getD x.snd.snd.fst
 (Int.toNat a_1)
 (Ty.dflt
 t48)).snd.fst).fst
 (removeF a
 (List.getD x.snd.snd.fst
 (Int.toNat a_1)
 (Ty.dflt
 t48)).snd.fst).snd.snd.fst
 (removeW (a_2, a_3, a_4, ())
 (List.getD x.snd.snd.fst
 (Int.toNat a_1)
 (Ty.dflt t48)).snd.fst)) =
 true →
 false = true) ∧
 ((!isF
 (removeF a
 (List.getD x.snd.snd.fst
 (Int.toNat a_1)
 (Ty.dflt
 t48)).snd.fst).fst
 (removeF a
 (List.getD x.snd.snd.fst
 (Int.toNat a_1)
 (Ty.dflt
 t48)).snd.fst).snd.snd.fst
 (removeW (a_2, a_3, a_4, ())
 (List.getD x.snd.snd.fst
 (Int.toNat a_1)
 (Ty.dflt t48)).snd.fst)) =
 false →
 (List.length (allF a) ≤ (10000 : Nat) ∧
 List.length (hidF a) ≤ (10000 : Nat) ∧
 RightL a_3) ∧
 ((!isF a (0 : Int)
 (a_2, a_3, a_4, ())) =
 true →
 false = true) ∧
 ((!isF a (0 : Int)
 (a_2, a_3, a_4, ())) =
 false →
 (Option.isSome
 (removeF a
 (List.getD x.snd.snd.fst
 (Int.toNat a_1)
 (Ty.dflt
 t48)).snd.fst).fst =
 true →
 ((IntKind.wrap IntKind.i64
 (a_1 + (1 : Int)) =
 IntKind.wrap IntKind.i64
 (a_1 + (1 : Int)) ∧
 (removeF a
 (List.getD
 x.snd.snd.fst
 (Int.toNat
 a_1)
 (Ty.dflt
 t48)).snd.fst).fst =
 (removeF a
 (List.getD
 x.snd.snd.fst
 (Int.toNat
 a_1)
 (Ty.dflt
 t48)).snd.fst).fst ∧
 True ∧
 x.snd.snd.fst =
 x.snd.snd.fst ∧
 (↑(List.length
 x.snd.snd.fst) :
 Int) =
 (↑(List.length
 x.snd.snd.fst) :
 Int)) ∧
 (removeW (a_2, a_3, a_4, ())
 (List.getD
 x.snd.snd.fst
 (Int.toNat
 a_1)
 (Ty.dflt
 t48)).snd.fst).fst =
 (removeW
 (a_2, a_3, a_4, ())
 (List.getD
 x.snd.snd.fst
 (Int.toNat
 a_1)
 (Ty.dflt
 t48)).snd.fst).fst ∧
 (removeW
 (a_2, a_3, a_4,
 ())
 (List.getD
 x.snd.snd.fst
 (Int.toNat
 a_1)
 (Ty.dflt
 t48)).snd.fst).snd.fst =
 (removeW
 (a_2, a_3, a_4,
 ())
 (List.getD
 x.snd.snd.fst
 (Int.toNat
 a_1)
 (Ty.dflt
 t48)).snd.fst).snd.fst ∧
 (removeW
 (a_2, a_3,
 a_4, ())
 (List.getD
 x.snd.snd.fst
 (Int.toNat
 a_1)
 (Ty.dflt
 t48)).snd.fst).snd.snd.fst =
 (removeW
 (a_2, a_3,
 a_4, ())
 (List.getD
 x.snd.snd.fst
 (Int.toNat
 a_1)
 (Ty.dflt
 t48)).snd.fst).snd.snd.fst) ∧
 Z
 ((removeF a
 (List.getD
 x.snd.snd.fst
 (Int.toNat
 a_1)
 (Ty.dflt
 t48)).snd.fst).fst,
 IntKind.wrap IntKind.i64
 (a_1 + (1 : Int)),
 removeW
 (a_2, a_3, a_4, ())
 (List.getD
 x.snd.snd.fst
 (Int.toNat a_1)
 (Ty.dflt
 t48)).snd.fst) ∧
 μ
 ((removeF a
 (List.getD
 x.snd.snd.fst
 (Int.toNat
 a_1)
 (Ty.dflt
 t48)).snd.fst).fst,
 IntKind.wrap
 IntKind.i64
 (a_1 + (1 : Int)),
 removeW
 (a_2, a_3, a_4, ())
 (List.getD
 x.snd.snd.fst
 (Int.toNat
 a_1)
 (Ty.dflt
 t48)).snd.fst) <
 μ
 (a, a_1, a_2, a_3, a_4,
 ())) ∧
 (Option.isSome
 (removeF a
 (List.getD x.snd.snd.fst
 (Int.toNat a_1)
 (Ty.dflt
 t48)).snd.fst).fst =
 false →
 ((IntKind.wrap IntKind.i64
 (a_1 + (1 : Int)) =
 IntKind.wrap IntKind.i64
 (a_1 + (1 : Int)) ∧
 a = a ∧
 True ∧
 x.snd.snd.fst =
 x.snd.snd.fst ∧
 (↑(List.length
 x.snd.snd.fst) :
 Int) =
 (↑(List.length
 x.snd.snd.fst) :
 Int)) ∧
 a_2 = a_2 ∧
 a_3 = a_3 ∧ a_4 = a_4) ∧
 Z
 (a,
 IntKind.wrap IntKind.i64
 (a_1 + (1 : Int)),
 a_2, a_3, a_4, ()) ∧
 μ
 (a,
 IntKind.wrap
 IntKind.i64
 (a_1 + (1 : Int)),
 a_2, a_3, a_4, ()) <
 μ
 (a, a_1, a_2, a_3, a_4,
 ()))))))) ∧
 (((removeF a
 (List.getD x.snd.snd.fst (Int.toNat a_1)
 (Ty.dflt t48)).snd.fst).snd.snd.fst ==
 (0 : Int)) =
 false →
 (((removeF a
 (List.getD x.snd.snd.fst (Int.toNat a_1)
 (Ty.dflt
 t48)).snd.fst).snd.snd.fst !=
 (0 : Int)) =
 true →
 (((removeF a
 (List.getD x.snd.snd.fst
 (Int.toNat a_1)
 (Ty.dflt
 t48)).snd.fst).snd.fst !=
 (0 : Int)) =
 true →
 false = true) ∧
 (((removeF a
 (List.getD x.snd.snd.fst
 (Int.toNat a_1)
 (Ty.dflt
 t48)).snd.fst).snd.fst !=
 (0 : Int)) =
 false →
 (List.length
 (allF
 (removeF a
 (List.getD x.snd.snd.fst
 (Int.toNat a_1)
 (Ty.dflt
 t48)).snd.fst).fst) ≤
 (10000 : Nat) ∧
 List.length
 (hidF
 (removeF a
 (List.getD x.snd.snd.fst
 (Int.toNat a_1)
 (Ty.dflt
 t48)).snd.fst).fst) ≤
 (10000 : Nat) ∧
 RightL
 (removeW (a_2, a_3, a_4, ())
 (List.getD x.snd.snd.fst
 (Int.toNat a_1)
 (Ty.dflt
 t48)).snd.fst).snd.fst) ∧
 ((!isF
 (removeF a
 (List.getD x.snd.snd.fst
 (Int.toNat a_1)
 (Ty.dflt
 t48)).snd.fst).fst
 (removeF a
 (List.getD x.snd.snd.fst
 (Int.toNat a_1)
 (Ty.dflt
 t48)).snd.fst).snd.snd.fst
 (removeW (a_2, a_3, a_4, ())
 (List.getD x.snd.snd.fst
 (Int.toNat a_1)
 (Ty.dflt t48)).snd.fst)) =
 true →
 false = true) ∧
 ((!isF
 (removeF a
 (List.getD x.snd.snd.fst
 (Int.toNat a_1)
 (Ty.dflt
 t48)).snd.fst).fst
 (removeF a
 (List.getD x.snd.snd.fst
 (Int.toNat a_1)
 (Ty.dflt
 t48)).snd.fst).snd.snd.fst
 (removeW (a_2, a_3, a_4, ())
 (List.getD x.snd.snd.fst
 (Int.toNat a_1)
 (Ty.dflt t48)).snd.fst)) =
 false →
 (List.length (allF a) ≤ (10000 : Nat) ∧
 List.length (hidF a) ≤ (10000 : Nat) ∧
 RightL a_3) ∧
 ((!isF a (0 : Int)
 (a_2, a_3, a_4, ())) =
 true →
 false = true) ∧
 ((!isF a (0 : Int)
 (a_2, a_3, a_4, ())) =
 false →
 (Option.isSome
 (removeF a
 (List.getD x.snd.snd.fst
 (Int.toNat a_1)
 (Ty.dflt
 t48)).snd.fst).fst =
 true →
 ((IntKind.wrap IntKind.i64
 (a_1 + (1 : Int)) =
 IntKind.wrap IntKind.i64
 (a_1 + (1 : Int)) ∧
 (removeF a
 (List.getD
 x.snd.snd.fst
 (Int.toNat
 a_1)
 (Ty.dflt
 t48)).snd.fst).fst =
 (removeF a
 (List.getD
 x.snd.snd.fst
 (Int.toNat
 a_1)
 (Ty.dflt
 t48)).snd.fst).fst ∧
 True ∧
 x.snd.snd.fst =
 x.snd.snd.fst ∧
 (↑(List.length
 x.snd.snd.fst) :
 Int) =
 (↑(List.length
 x.snd.snd.fst) :
 Int)) ∧
 (removeW (a_2, a_3, a_4, ())
 (List.getD
 x.snd.snd.fst
 (Int.toNat
 a_1)
 (Ty.dflt
 t48)).snd.fst).fst =
 (removeW
 (a_2, a_3, a_4, ())
 (List.getD
 x.snd.snd.fst
 (Int.toNat
 a_1)
 (Ty.dflt
 t48)).snd.fst).fst ∧
 (removeW
 (a_2, a_3, a_4,
 ())
 (List.getD
 x.snd.snd.fst
 (Int.toNat
 a_1)
 (Ty.dflt
 t48)).snd.fst).snd.fst =
 (removeW
 (a_2, a_3, a_4,
 ())
 (List.getD
 x.snd.snd.fst
 (Int.toNat
 a_1)
 (Ty.dflt
 t48)).snd.fst).snd.fst ∧
 (removeW
 (a_2, a_3,
 a_4, ())
 (List.getD
 x.snd.snd.fst
 (Int.toNat
 a_1)
 (Ty.dflt
 t48)).snd.fst).snd.snd.fst =
 (removeW
 (a_2, a_3,
 a_4, ())
 (List.getD
 x.snd.snd.fst
 (Int.toNat
 a_1)
 (Ty.dflt
 t48)).snd.fst).snd.snd.fst) ∧
 Z
 ((removeF a
 (List.getD
 x.snd.snd.fst
 (Int.toNat
 a_1)
 (Ty.dflt
 t48)).snd.fst).fst,
 IntKind.wrap IntKind.i64
 (a_1 + (1 : Int)),
 removeW
 (a_2, a_3, a_4, ())
 (List.getD
 x.snd.snd.fst
 (Int.toNat a_1)
 (Ty.dflt
 t48)).snd.fst) ∧
 μ
 ((removeF a
 (List.getD
 x.snd.snd.fst
 (Int.toNat
 a_1)
 (Ty.dflt
 t48)).snd.fst).fst,
 IntKind.wrap
 IntKind.i64
 (a_1 + (1 : Int)),
 removeW
 (a_2, a_3, a_4, ())
 (List.getD
 x.snd.snd.fst
 (Int.toNat
 a_1)
 (Ty.dflt
 t48)).snd.fst) <
 μ
 (a, a_1, a_2, a_3, a_4,
 ())) ∧
 (Option.isSome
 (removeF a
 (List.getD x.snd.snd.fst
 (Int.toNat a_1)
 (Ty.dflt
 t48)).snd.fst).fst =
 false →
 ((IntKind.wrap IntKind.i64
 (a_1 + (1 : Int)) =
 IntKind.wrap IntKind.i64
 (a_1 + (1 : Int)) ∧
 a = a ∧
 True ∧
 x.snd.snd.fst =
 x.snd.snd.fst ∧
 (↑(List.length
 x.snd.snd.fst) :
 Int) =
 (↑(List.length
 x.snd.snd.fst) :
 Int)) ∧
 a_2 = a_2 ∧
 a_3 = a_3 ∧ a_4 = a_4) ∧
 Z
 (a,
 IntKind.wrap IntKind.i64
 (a_1 + (1 : Int)),
 a_2, a_3, a_4, ()) ∧
 μ
 (a,
 IntKind.wrap
 IntKind.i64
 (a_1 + (1 : Int)),
 a_2, a_3, a_4, ()) <
 μ
 (a, a_1, a_2, a_3, a_4,
 ())))))) ∧
 (((removeF a
 (List.getD x.snd.snd.fst (Int.toNat a_1)
 (Ty.dflt
 t48)).snd.fst).snd.snd.fst !=
 (0 : Int)) =
 false →
 (List.length
 (allF
 (removeF a
 (List.getD x.snd.snd.fst
 (Int.toNat a_1)
 (Ty.dflt t48)).snd.fst).fst) ≤
 (10000 : Nat) ∧
 List.length
 (hidF
 (removeF a
 (List.getD x.snd.snd.fst
 (Int.toNat a_1)
 (Ty.dflt t48)).snd.fst).fst) ≤
 (10000 : Nat) ∧
 RightL
 (removeW (a_2, a_3, a_4, ())
 (List.getD x.snd.snd.fst
 (Int.toNat a_1)
 (Ty.dflt
 t48)).snd.fst).snd.fst) ∧
 ((!isF
 (removeF a
 (List.getD x.snd.snd.fst
 (Int.toNat a_1)
 (Ty.dflt t48)).snd.fst).fst
 (removeF a
 (List.getD x.snd.snd.fst
 (Int.toNat a_1)
 (Ty.dflt
 t48)).snd.fst).snd.snd.fst
 (removeW (a_2, a_3, a_4, ())
 (List.getD x.snd.snd.fst
 (Int.toNat a_1)
 (Ty.dflt t48)).snd.fst)) =
 true →
 false = true) ∧
 ((!isF
 (removeF a
 (List.getD x.snd.snd.fst
 (Int.toNat a_1)
 (Ty.dflt t48)).snd.fst).fst
 (removeF a
 (List.getD x.snd.snd.fst
 (Int.toNat a_1)
 (Ty.dflt
 t48)).snd.fst).snd.snd.fst
 (removeW (a_2, a_3, a_4, ())
 (List.getD x.snd.snd.fst
 (Int.toNat a_1)
 (Ty.dflt t48)).snd.fst)) =
 false →
 (List.length (allF a) ≤ (10000 : Nat) ∧
 List.length (hidF a) ≤ (10000 : Nat) ∧
 RightL a_3) ∧
 ((!isF a (0 : Int) (a_2, a_3, a_4, ())) =
 true →
 false = true) ∧
 ((!isF a (0 : Int) (a_2, a_3, a_4, ())) =
 false →
 (Option.isSome
 (removeF a
 (List.getD x.snd.snd.fst
 (Int.toNat a_1)
 (Ty.dflt
 t48)).snd.fst).fst =
 true →
 ((IntKind.wrap IntKind.i64
 (a_1 + (1 : Int)) =
 IntKind.wrap IntKind.i64
 (a_1 + (1 : Int)) ∧
 (removeF a
 (List.getD
 x.snd.snd.fst
 (Int.toNat a_1)
 (Ty.dflt
 t48)).snd.fst).fst =
 (removeF a
 (List.getD
 x.snd.snd.fst
 (Int.toNat a_1)
 (Ty.dflt
 t48)).snd.fst).fst ∧
 True ∧
 x.snd.snd.fst =
 x.snd.snd.fst ∧
 (↑(List.length
 x.snd.snd.fst) :
 Int) =
 (↑(List.length
 x.snd.snd.fst) :
 Int)) ∧
 (removeW (a_2, a_3, a_4, ())
 (List.getD x.snd.snd.fst
 (Int.toNat a_1)
 (Ty.dflt
 t48)).snd.fst).fst =
 (removeW (a_2, a_3, a_4, ())
 (List.getD x.snd.snd.fst
 (Int.toNat a_1)
 (Ty.dflt
 t48)).snd.fst).fst ∧
 (removeW (a_2, a_3, a_4, ())
 (List.getD
 x.snd.snd.fst
 (Int.toNat
 a_1)
 (Ty.dflt
 t48)).snd.fst).snd.fst =
 (removeW
 (a_2, a_3, a_4, ())
 (List.getD
 x.snd.snd.fst
 (Int.toNat
 a_1)
 (Ty.dflt
 t48)).snd.fst).snd.fst ∧
 (removeW (a_2, a_3, a_4, ())
 (List.getD
 x.snd.snd.fst
 (Int.toNat
 a_1)
 (Ty.dflt
 t48)).snd.fst).snd.snd.fst =
 (removeW
 (a_2, a_3, a_4,
 ())
 (List.getD
 x.snd.snd.fst
 (Int.toNat
 a_1)
 (Ty.dflt
 t48)).snd.fst).snd.snd.fst) ∧
 Z
 ((removeF a
 (List.getD x.snd.snd.fst
 (Int.toNat a_1)
 (Ty.dflt
 t48)).snd.fst).fst,
 IntKind.wrap IntKind.i64
 (a_1 + (1 : Int)),
 removeW (a_2, a_3, a_4, ())
 (List.getD x.snd.snd.fst
 (Int.toNat a_1)
 (Ty.dflt
 t48)).snd.fst) ∧
 μ
 ((removeF a
 (List.getD
 x.snd.snd.fst
 (Int.toNat a_1)
 (Ty.dflt
 t48)).snd.fst).fst,
 IntKind.wrap IntKind.i64
 (a_1 + (1 : Int)),
 removeW
 (a_2, a_3, a_4, ())
 (List.getD x.snd.snd.fst
 (Int.toNat a_1)
 (Ty.dflt
 t48)).snd.fst) <
 μ
 (a, a_1, a_2, a_3, a_4,
 ())) ∧
 (Option.isSome
 (removeF a
 (List.getD x.snd.snd.fst
 (Int.toNat a_1)
 (Ty.dflt
 t48)).snd.fst).fst =
 false →
 ((IntKind.wrap IntKind.i64
 (a_1 + (1 : Int)) =
 IntKind.wrap IntKind.i64
 (a_1 + (1 : Int)) ∧
 a = a ∧
 True ∧
 x.snd.snd.fst =
 x.snd.snd.fst ∧
 (↑(List.length
 x.snd.snd.fst) :
 Int) =
 (↑(List.length
 x.snd.snd.fst) :
 Int)) ∧
 a_2 = a_2 ∧
 a_3 = a_3 ∧ a_4 = a_4) ∧
 Z
 (a,
 IntKind.wrap IntKind.i64
 (a_1 + (1 : Int)),
 a_2, a_3, a_4, ()) ∧
 μ
 (a,
 IntKind.wrap IntKind.i64
 (a_1 + (1 : Int)),
 a_2, a_3, a_4, ()) <
 μ
 (a, a_1, a_2, a_3, a_4,
 ()))))))) ∧
 (((List.getD x.snd.snd.fst (Int.toNat a_1) (Ty.dflt t48)).fst ==
 (2 : Int)) =
 false →
 (((List.getD x.snd.snd.fst (Int.toNat a_1) (Ty.dflt t48)).fst ==
 (3 : Int)) =
 true →
 (decide
 ((↑(List.length
 (List.getD x.snd.snd.fst (Int.toNat a_1)
 (Ty.dflt t48)).snd.snd.fst) :
 Int) >
 (100 : Int)) =
 true →
 True ∧ true = true) ∧
 (decide
 ((↑(List.length
 (List.getD x.snd.snd.fst (Int.toNat a_1)
 (Ty.dflt t48)).snd.snd.fst) :
 Int) >
 (100 : Int)) =
 false →
 (okF a ∧
 lenF a ≤ (1099511627776 : Int) ∧
 (0 : Int) ≤ lenF a ∧
 List.length
 (List.getD x.snd.snd.fst (Int.toNat a_1)
 (Ty.dflt t48)).snd.snd.fst ≤
 (1000 : Nat)) ∧
 List.length
 (List.getD x.snd.snd.fst (Int.toNat a_1)
 (Ty.dflt t48)).snd.snd.fst ≤
 (1000000000 : Nat) ∧
 (List.length a_3 ≤ (60 : Nat) ∧
 (∀ (m : Ty.den t33),
 m ∈
 (((a, a_1, a_2, a_3, a_4,
 ()).snd.snd.fst,
 (a, a_1, a_2, a_3, a_4,
 ()).snd.snd.snd.fst,
 (a, a_1, a_2, a_3, a_4,
 ()).snd.snd.snd.snd.fst,
 ()),
 cChanges.fn
 ((List.getD x.snd.snd.fst
 (Int.toNat
 (a, a_1, a_2, a_3,
 a_4,
 ()).snd.fst)
 (Ty.dflt
 t48)).snd.snd.fst,
 ()),
 ()).fst.snd.fst →
 okS
 (((a, a_1, a_2, a_3, a_4,
 ()).snd.snd.fst,
 (a, a_1, a_2, a_3, a_4,
 ()).snd.snd.snd.fst,
 (a, a_1, a_2, a_3, a_4,
 ()).snd.snd.snd.snd.fst,
 ()),
 cChanges.fn
 ((List.getD x.snd.snd.fst
 (Int.toNat
 (a, a_1, a_2, a_3,
 a_4,
 ()).snd.fst)
 (Ty.dflt
 t48)).snd.snd.fst,
 ()),
 ()).fst.fst
 m =
 true) ∧
 (0 : Int) ≤ a_2 ∧
 a_2 ≤ (1099511627776 : Int) ∧
 List.length
 (List.getD x.snd.snd.fst
 (Int.toNat a_1)
 (Ty.dflt t48)).snd.snd.fst ≤
 (1000 : Nat)) ∧
 (List.length
 (allF
 (shiftF a
 (List.getD x.snd.snd.fst
 (Int.toNat a_1)
 (Ty.dflt
 t48)).snd.snd.fst).fst) ≤
 (10000 : Nat) ∧
 List.length
 (hidF
 (shiftF a
 (List.getD x.snd.snd.fst
 (Int.toNat a_1)
 (Ty.dflt
 t48)).snd.snd.fst).fst) ≤
 (10000 : Nat) ∧
 RightL
 (shiftW (a_2, a_3, a_4, ())
 (List.getD x.snd.snd.fst
 (Int.toNat a_1)
 (Ty.dflt
 t48)).snd.snd.fst).snd.fst) ∧
 ((!isF
 (shiftF a
 (List.getD x.snd.snd.fst
 (Int.toNat a_1)
 (Ty.dflt
 t48)).snd.snd.fst).fst
 (shiftF a
 (List.getD x.snd.snd.fst
 (Int.toNat a_1)
 (Ty.dflt
 t48)).snd.snd.fst).snd.fst
 (shiftW (a_2, a_3, a_4, ())
 (List.getD x.snd.snd.fst
 (Int.toNat a_1)
 (Ty.dflt
 t48)).snd.snd.fst)) =
 true →
 false = true) ∧
 ((!isF
 (shiftF a
 (List.getD x.snd.snd.fst
 (Int.toNat a_1)
 (Ty.dflt
 t48)).snd.snd.fst).fst
 (shiftF a
 (List.getD x.snd.snd.fst
 (Int.toNat a_1)
 (Ty.dflt
 t48)).snd.snd.fst).snd.fst
 (shiftW (a_2, a_3, a_4, ())
 (List.getD x.snd.snd.fst
 (Int.toNat a_1)
 (Ty.dflt
 t48)).snd.snd.fst)) =
 false →
 (List.length (allF a) ≤ (10000 : Nat) ∧
 List.length (hidF a) ≤ (10000 : Nat) ∧
 RightL a_3) ∧
 ((!isF a (0 : Int) (a_2, a_3, a_4, ())) =
 true →
 false = true) ∧
 ((!isF a (0 : Int)
 (a_2, a_3, a_4, ())) =
 false →
 (Option.isSome
 (shiftF a
 (List.getD x.snd.snd.fst
 (Int.toNat a_1)
 (Ty.dflt
 t48)).snd.snd.fst).fst =
 true →
 ((IntKind.wrap IntKind.i64
 (a_1 + (1 : Int)) =
 IntKind.wrap IntKind.i64
 (a_1 + (1 : Int)) ∧
 (shiftF a
 (List.getD
 x.snd.snd.fst
 (Int.toNat
 a_1)
 (Ty.dflt
 t48)).snd.snd.fst).fst =
 (shiftF a
 (List.getD
 x.snd.snd.fst
 (Int.toNat
 a_1)
 (Ty.dflt
 t48)).snd.snd.fst).fst ∧
 True ∧
 x.snd.snd.fst =
 x.snd.snd.fst ∧
 (↑(List.length
 x.snd.snd.fst) :
 Int) =
 (↑(List.length
 x.snd.snd.fst) :
 Int)) ∧
 (shiftW (a_2, a_3, a_4, ())
 (List.getD
 x.snd.snd.fst
 (Int.toNat
 a_1)
 (Ty.dflt
 t48)).snd.snd.fst).fst =
 (shiftW
 (a_2, a_3, a_4, ())
 (List.getD
 x.snd.snd.fst
 (Int.toNat
 a_1)
 (Ty.dflt
 t48)).snd.snd.fst).fst ∧
 (shiftW (a_2, a_3, a_4, ())
 (List.getD
 x.snd.snd.fst
 (Int.toNat
 a_1)
 (Ty.dflt
 t48)).snd.snd.fst).snd.fst =
 (shiftW
 (a_2, a_3, a_4,
 ())
 (List.getD
 x.snd.snd.fst
 (Int.toNat
 a_1)
 (Ty.dflt
 t48)).snd.snd.fst).snd.fst ∧
 (shiftW
 (a_2, a_3, a_4,
 ())
 (List.getD
 x.snd.snd.fst
 (Int.toNat
 a_1)
 (Ty.dflt
 t48)).snd.snd.fst).snd.snd.fst =
 (shiftW
 (a_2, a_3, a_4,
 ())
 (List.getD
 x.snd.snd.fst
 (Int.toNat
 a_1)
 (Ty.dflt
 t48)).snd.snd.fst).snd.snd.fst) ∧
 Z
 ((shiftF a
 (List.getD
 x.snd.snd.fst
 (Int.toNat
 a_1)
 (Ty.dflt
 t48)).snd.snd.fst).fst,
 IntKind.wrap IntKind.i64
 (a_1 + (1 : Int)),
 shiftW (a_2, a_3, a_4, ())
 (List.getD x.snd.snd.fst
 (Int.toNat a_1)
 (Ty.dflt
 t48)).snd.snd.fst) ∧
 μ
 ((shiftF a
 (List.getD
 x.snd.snd.fst
 (Int.toNat
 a_1)
 (Ty.dflt
 t48)).snd.snd.fst).fst,
 IntKind.wrap IntKind.i64
 (a_1 + (1 : Int)),
 shiftW
 (a_2, a_3, a_4, ())
 (List.getD
 x.snd.snd.fst
 (Int.toNat
 a_1)
 (Ty.dflt
 t48)).snd.snd.fst) <
 μ
 (a, a_1, a_2, a_3, a_4,
 ())) ∧
 (Option.isSome
 (shiftF a
 (List.getD x.snd.snd.fst
 (Int.toNat a_1)
 (Ty.dflt
 t48)).snd.snd.fst).fst =
 false →
 ((IntKind.wrap IntKind.i64
 (a_1 + (1 : Int)) =
 IntKind.wrap IntKind.i64
 (a_1 + (1 : Int)) ∧
 a = a ∧
 True ∧
 x.snd.snd.fst =
 x.snd.snd.fst ∧
 (↑(List.length
 x.snd.snd.fst) :
 Int) =
 (↑(List.length
 x.snd.snd.fst) :
 Int)) ∧
 a_2 = a_2 ∧
 a_3 = a_3 ∧ a_4 = a_4) ∧
 Z
 (a,
 IntKind.wrap IntKind.i64
 (a_1 + (1 : Int)),
 a_2, a_3, a_4, ()) ∧
 μ
 (a,
 IntKind.wrap IntKind.i64
 (a_1 + (1 : Int)),
 a_2, a_3, a_4, ()) <
 μ
 (a, a_1, a_2, a_3, a_4,
 ())))))) ∧
 (((List.getD x.snd.snd.fst (Int.toNat a_1)
 (Ty.dflt t48)).fst ==
 (3 : Int)) =
 false →
 (List.length (allF a) ≤ (10000 : Nat) ∧
 List.length (hidF a) ≤ (10000 : Nat) ∧ RightL a_3) ∧
 ((!isF a (0 : Int) (a_2, a_3, a_4, ())) = true →
 false = true) ∧
 ((!isF a (0 : Int) (a_2, a_3, a_4, ())) = false →
 (List.length (allF a) ≤ (10000 : Nat) ∧
 List.length (hidF a) ≤ (10000 : Nat) ∧
 RightL a_3) ∧
 ((!isF a (0 : Int) (a_2, a_3, a_4, ())) = true →
 false = true) ∧
 ((!isF a (0 : Int) (a_2, a_3, a_4, ())) = false →
 (Option.isSome a = true →
 ((IntKind.wrap IntKind.i64
 (a_1 + (1 : Int)) =
 IntKind.wrap IntKind.i64
 (a_1 + (1 : Int)) ∧
 a = a ∧
 True ∧
 x.snd.snd.fst = x.snd.snd.fst ∧
 (↑(List.length x.snd.snd.fst) :
 Int) =
 (↑(List.length
 x.snd.snd.fst) :
 Int)) ∧
 a_2 = a_2 ∧ a_3 = a_3 ∧ a_4 = a_4) ∧
 Z
 (a,
 IntKind.wrap IntKind.i64
 (a_1 + (1 : Int)),
 a_2, a_3, a_4, ()) ∧
 μ
 (a,
 IntKind.wrap IntKind.i64
 (a_1 + (1 : Int)),
 a_2, a_3, a_4, ()) <
 μ (a, a_1, a_2, a_3, a_4, ())) ∧
 (Option.isSome a = false →
 ((IntKind.wrap IntKind.i64
 (a_1 + (1 : Int)) =
 IntKind.wrap IntKind.i64
 (a_1 + (1 : Int)) ∧
 a = a ∧
 True ∧
 x.snd.snd.fst = x.snd.snd.fst ∧
 (↑(List.length x.snd.snd.fst) :
 Int) =
 (↑(List.length
 x.snd.snd.fst) :
 Int)) ∧
 a_2 = a_2 ∧ a_3 = a_3 ∧ a_4 = a_4) ∧
 Z
 (a,
 IntKind.wrap IntKind.i64
 (a_1 + (1 : Int)),
 a_2, a_3, a_4, ()) ∧
 μ
 (a,
 IntKind.wrap IntKind.i64
 (a_1 + (1 : Int)),
 a_2, a_3, a_4, ()) <
 μ
 (a, a_1, a_2, a_3, a_4,
 ()))))))))) ∧
 (decide (a_1 < (↑(List.length x.snd.snd.fst) : Int)) = false →
 True ∧ true = true)))))
theorem vcEq6 : fnVC E6 Try.f6 (bodyOf Try.f6) cFoldsSteps = vc6 := by kernel_rfl
/- fn 7 -/
def hs7 : List (Nat × Nat × Hint) := []
def nm7 : List Nat := [3000000027]
noncomputable def E7 : Env := env tab [(19, cRemove), (15, cShift), (17, cAdd), (13, cOver), (23, cLen), (16, cAll), (11, cHidden), (8, cThree)] [] noGl hs7 nm7
def vc7 : Prop :=
 ∀ (x : Span × Unit),
 True →
 List.length (allF none) ≤ (10000 : Nat) ∧
 (okF none ∧ lenF none ≤ (1099511627776 : Int) ∧ (0 : Int) ≤ lenF none ∧ (0 : Nat) ≤ (1000 : Nat)) ∧
 List.length (allF none) ≤ (10000 : Nat) ∧
 List.length (hidF none) ≤ (10000 : Nat) ∧
 (Ty.beq t4 ((removeF none x.fst).snd.snd.fst == (0 : Int)) (Ty.beq t33 x.fst ((0 : Int), (0 : Int), ())) =
 true →
 (Ty.beq t4 (Option.isNone (removeF none x.fst).fst) ((removeF none x.fst).snd.snd.fst != (0 : Int)) =
 true →
 (((removeF none x.fst).snd.fst == (0 : Int)) = true →
 (((shiftF none []).snd.fst == (0 : Int)) = true →
 (Option.isSome (shiftF none []).fst = true →
 (((newF (lenF none) (allF none ++ [x.fst])).snd.fst == (1 : Int)) = true →
 ((!(overF none x.fst.fst).snd.fst) = true →
 True ∧
 ((lenF none == (0 : Int)) = true →
 List.length (allF none) ≤ (10000 : Nat) ∧
 (((↑(List.length (allF none)) : Int) == (0 : Int)) = true →
 List.length (hidF none) ≤ (10000 : Nat) ∧
 (((↑(List.length (hidF none)) : Int) == (0 : Int)) = true →
 True ∧ true = true) ∧
 (((↑(List.length (hidF none)) : Int) == (0 : Int)) = false →
 false = true)) ∧
 (((↑(List.length (allF none)) : Int) == (0 : Int)) = false →
 false = true)) ∧
 ((lenF none == (0 : Int)) = false → false = true)) ∧
 ((!(overF none x.fst.fst).snd.fst) = false → false = true)) ∧
 (((newF (lenF none) (allF none ++ [x.fst])).snd.fst == (1 : Int)) = false →
 false = true)) ∧
 (Option.isSome (shiftF none []).fst = false → false = true)) ∧
 (((shiftF none []).snd.fst == (0 : Int)) = false → false = true)) ∧
 (((removeF none x.fst).snd.fst == (0 : Int)) = false → false = true)) ∧
 (Ty.beq t4 (Option.isNone (removeF none x.fst).fst) ((removeF none x.fst).snd.snd.fst != (0 : Int)) =
 false →
 false = true)) ∧
 (Ty.beq t4 ((removeF none x.fst).snd.snd.fst == (0 : Int)) (Ty.beq t33 x.fst ((0 : Int), (0 : Int), ())) =
 false →
 false = true)
theorem vcEq7 : fnVC E7 Try.f7 (bodyOf Try.f7) cFoldsNil = vc7 := by kernel_rfl
/- fn 8 -/
def hs8 : List (Nat × Nat × Hint) := []
def nm8 : List Nat := [3000000027]
noncomputable def E8 : Env := env tab [(9, cNew), (13, cOver), (11, cHidden), (24, cSpans), (23, cLen)] [] noGl hs8 nm8
def vc8 : Prop :=
 ∀ (x : Unit),
 True →
 List.length [((3 : Int), (6 : Int), ()), ((6 : Int), (8 : Int), ()), ((1 : Int), (4 : Int), ())] ≤ maxLen ∧
 List.length
 (hidF
 (newF (9 : Int)
 [((3 : Int), (6 : Int), ()), ((6 : Int), (8 : Int), ()), ((1 : Int), (4 : Int), ())]).fst) ≤
 (10000 : Nat) ∧
 (((newF (9 : Int)
 [((3 : Int), (6 : Int), ()), ((6 : Int), (8 : Int), ()), ((1 : Int), (4 : Int), ())]).snd.fst ==
 (0 : Int)) =
 true →
 List.length
 (hidF
 (newF (9 : Int)
 [((3 : Int), (6 : Int), ()), ((6 : Int), (8 : Int), ()), ((1 : Int), (4 : Int), ())]).fst) ≤
 (10000 : Nat) ∧
 (List.length
 (hidF
 (newF (9 : Int)
 [((3 : Int), (6 : Int), ()), ((6 : Int), (8 : Int), ()), ((1 : Int), (4 : Int), ())]).fst) ≤
 maxLen ∧
 List.length [((1 : Int), (6 : Int), ()), ((6 : Int), (8 : Int), ())] ≤ maxLen) ∧
 (decide
 (hidF
 (newF (9 : Int)
 [((3 : Int), (6 : Int), ()), ((6 : Int), (8 : Int), ()),
 ((1 : Int), (4 : Int), ())]).fst =
 [((1 : Int), (6 : Int), ()), ((6 : Int), (8 : Int), ())]) =
 true →
 ((overF
 (newF (9 : Int)
 [((3 : Int), (6 : Int), ()), ((6 : Int), (8 : Int), ()),
 ((1 : Int), (4 : Int), ())]).fst
 (5 : Int)).snd.fst =
 true →
 (((overF
 (newF (9 : Int)
 [((3 : Int), (6 : Int), ()), ((6 : Int), (8 : Int), ()),
 ((1 : Int), (4 : Int), ())]).fst
 (5 : Int)).fst.snd.fst ==
 (6 : Int)) =
 true →
 True ∧
 (lenF
 (newF (9 : Int)
 [((3 : Int), (6 : Int), ()), ((6 : Int), (8 : Int), ()),
 ((1 : Int), (4 : Int), ())]).fst ==
 (9 : Int)) =
 true) ∧
 (((overF
 (newF (9 : Int)
 [((3 : Int), (6 : Int), ()), ((6 : Int), (8 : Int), ()),
 ((1 : Int), (4 : Int), ())]).fst
 (5 : Int)).fst.snd.fst ==
 (6 : Int)) =
 false →
 false = true)) ∧
 ((overF
 (newF (9 : Int)
 [((3 : Int), (6 : Int), ()), ((6 : Int), (8 : Int), ()),
 ((1 : Int), (4 : Int), ())]).fst
 (5 : Int)).snd.fst =
 false →
 false = true)) ∧
 (decide
 (hidF
 (newF (9 : Int)
 [((3 : Int), (6 : Int), ()), ((6 : Int), (8 : Int), ()),
 ((1 : Int), (4 : Int), ())]).fst =
 [((1 : Int), (6 : Int), ()), ((6 : Int), (8 : Int), ())]) =
 false →
 false = true)) ∧
 (((newF (9 : Int)
 [((3 : Int), (6 : Int), ()), ((6 : Int), (8 : Int), ()), ((1 : Int), (4 : Int), ())]).snd.fst ==
 (0 : Int)) =
 false →
 false = true)
theorem vcEq8 : fnVC E8 Try.f8 (bodyOf Try.f8) cThree = vc8 := by kernel_rfl
/- fn 10 -/
def hs10 : List (Nat × Nat × Hint) := [(0, 7, ⟨[.rowS 5 900000005 t33 33, .slot 27 t3], [0, 1, 4, 25, 26], [4], []⟩),
  (0, 12, ⟨[.slot 53 t3], [0, 1, 4, 5, 7, 25, 26, 27, 51, 52], [4, 7], [900000005]⟩),
  (0, 20, ⟨[.rowS 10 900000010 t33 33, .slot 11 t4, .slot 64 t3], [0, 1, 4, 7, 25, 26, 27, 62, 63], [4, 7], [900000005]⟩)]
def nm10 : List Nat := [3000000027]
noncomputable def E10 : Env := env tab [] [] noGl hs10 nm10
def vc10 : Prop :=
 ∀ (x : Int × List Span × Unit),
 List.length x.snd.fst ≤ maxLen →
 (decide (x.fst < (0 : Int)) = true → ((0 : Int), [], (1 : Int), ()) = newW x.fst x.snd.fst) ∧
 (decide (x.fst < (0 : Int)) = false →
 (decide (x.fst > (1099511627776 : Int)) = true → ((0 : Int), [], (1 : Int), ()) = newW x.fst x.snd.fst) ∧
 (decide (x.fst > (1099511627776 : Int)) = false →
 (decide ((↑(List.length x.snd.fst) : Int) > (60 : Int)) = true →
 ((0 : Int), [], (5 : Int), ()) = newW x.fst x.snd.fst) ∧
 (decide ((↑(List.length x.snd.fst) : Int) > (60 : Int)) = false →
 (((0 : Int) = (0 : Int) ∧
 True ∧
 x.fst = x.fst ∧
 x.snd.fst = x.snd.fst ∧
 True ∧
 x.snd.fst = x.snd.fst ∧
 (↑(List.length x.snd.fst) : Int) = (↑(List.length x.snd.fst) : Int)) ∧
 ((0 : Int) = (0 : Int) ∧
 Value.slice none (0 : Nat) (0 : Nat) = Value.slice none (0 : Nat) (0 : Nat) ∧
 (0 : Int) = (0 : Int)) ∧
 True ∧ True) ∧
 ∃ (Z : List Span × Int × Unit → Prop),
 ∃ (μ : List Span × Int × Unit → Nat),
 Z ([], (0 : Int), ()) ∧
 ∀ (a : List Span) (a_1 : Int),
 Z (a, a_1, ()) →
 (decide (a_1 < (↑(List.length x.snd.fst) : Int)) = true →
 ((0 : Int) ≤ a_1 ∧ a_1 < (↑(List.length x.snd.fst) : Int)) ∧
 (decide ((List.getD x.snd.fst (Int.toNat a_1) (Ty.dflt t33)).fst < (0 : Int)) = true →
 ((0 : Int), [], (1 : Int), ()) = newW x.fst x.snd.fst) ∧
 (decide ((List.getD x.snd.fst (Int.toNat a_1) (Ty.dflt t33)).fst < (0 : Int)) =
 false →
 (decide
 ((List.getD x.snd.fst (Int.toNat a_1) (Ty.dflt t33)).fst ≥
 (List.getD x.snd.fst (Int.toNat a_1) (Ty.dflt t33)).snd.fst) =
 true →
 ((0 : Int), [], (1 : Int), ()) = newW x.fst x.snd.fst) ∧
 (decide
 ((List.getD x.snd.fst (Int.toNat a_1) (Ty.dflt t33)).fst ≥
 (List.getD x.snd.fst (Int.toNat a_1) (Ty.dflt t33)).snd.fst) =
 false →
 (decide
 ((List.getD x.snd.fst (Int.toNat a_1) (Ty.dflt t33)).snd.fst >
 x.fst) =
 true →
 ((0 : Int), [], (1 : Int), ()) = newW x.fst x.snd.fst) ∧
 (decide
 ((List.getD x.snd.fst (Int.toNat a_1) (Ty.dflt t33)).snd.fst >
 x.fst) =
 false →
 ((0 : Int) ≤ a_1 ∧ a_1 ≤ (↑(List.length x.snd.fst) : Int)) ∧
 (((0 : Int) = (0 : Int) ∧
 x.fst = x.fst ∧
 x.snd.fst = x.snd.fst ∧
 True ∧
 True ∧
 True ∧
 x.snd.fst = x.snd.fst ∧
 (↑(List.length x.snd.fst) : Int) =
 (↑(List.length x.snd.fst) : Int) ∧
 a_1 = a_1 ∧
 List.take (Int.toNat a_1) x.snd.fst =
 List.take (Int.toNat a_1) x.snd.fst ∧
 (↑(List.length
 (List.take (Int.toNat a_1) x.snd.fst)) :
 Int) =
 (↑(List.length
 (List.take (Int.toNat a_1) x.snd.fst)) :
 Int)) ∧
 (((0 : Int) = (0 : Int) ∧
 Value.slice none (0 : Nat) (0 : Nat) =
 Value.slice none (0 : Nat) (0 : Nat) ∧
 (0 : Int) = (0 : Int)) ∧
 (List.getD x.snd.fst (Int.toNat a_1) (Ty.dflt t33)).fst =
 (List.getD x.snd.fst (Int.toNat a_1) (Ty.dflt t33)).fst ∧
 (List.getD x.snd.fst (Int.toNat a_1) (Ty.dflt t33)).snd.fst =
 (List.getD x.snd.fst (Int.toNat a_1)
 (Ty.dflt t33)).snd.fst) ∧
 a = a ∧ True) ∧
 ∃ (Z_1 : Int × Unit → Prop),
 ∃ (μ_1 : Int × Unit → Nat),
 Z_1 ((0 : Int), ()) ∧
 ∀ (a_7 : Int),
 Z_1 (a_7, ()) →
 (decide
 (a_7 <
 (↑(List.length
 (List.take (Int.toNat a_1) x.snd.fst)) :
 Int)) =
 true →
 ((0 : Int) ≤ a_7 ∧
 a_7 <
 (↑(List.length
 (List.take (Int.toNat a_1) x.snd.fst)) :
 Int)) ∧
 (Ty.beq t33
 (List.getD x.snd.fst (Int.toNat a_1)
 (Ty.dflt t33))
 (List.getD
 (List.take (Int.toNat a_1) x.snd.fst)
 (Int.toNat a_7) (Ty.dflt t33)) =
 true →
 ((0 : Int), [], (8 : Int), ()) =
 newW x.fst x.snd.fst) ∧
 (Ty.beq t33
 (List.getD x.snd.fst (Int.toNat a_1)
 (Ty.dflt t33))
 (List.getD
 (List.take (Int.toNat a_1) x.snd.fst)
 (Int.toNat a_7) (Ty.dflt t33)) =
 false →
 ((IntKind.wrap IntKind.i64 (a_7 + (1 : Int)) =
 IntKind.wrap IntKind.i64
 (a_7 + (1 : Int)) ∧
 x.fst = x.fst ∧
 x.snd.fst = x.snd.fst ∧
 True ∧
 True ∧
 True ∧
 x.snd.fst = x.snd.fst ∧
 (↑(List.length x.snd.fst) :
 Int) =
 (↑(List.length x.snd.fst) :
 Int) ∧
 a_1 = a_1 ∧
 List.take (Int.toNat a_1)
 x.snd.fst =
 List.take
 (Int.toNat a_1)
 x.snd.fst ∧
 (↑(List.length
 (List.take
 (Int.toNat a_1)
 x.snd.fst)) :
 Int) =
 (↑(List.length
 (List.take
 (Int.toNat a_1)
 x.snd.fst)) :
 Int)) ∧
 (((0 : Int) = (0 : Int) ∧
 Value.slice none (0 : Nat) (0 : Nat) =
 Value.slice none (0 : Nat)
 (0 : Nat) ∧
 (0 : Int) = (0 : Int)) ∧
 (List.getD x.snd.fst (Int.toNat a_1)
 (Ty.dflt t33)).fst =
 (List.getD x.snd.fst (Int.toNat a_1)
 (Ty.dflt t33)).fst ∧
 (List.getD x.snd.fst (Int.toNat a_1)
 (Ty.dflt t33)).snd.fst =
 (List.getD x.snd.fst (Int.toNat a_1)
 (Ty.dflt t33)).snd.fst) ∧
 a = a ∧ True) ∧
 Z_1
 (IntKind.wrap IntKind.i64 (a_7 + (1 : Int)),
 ()) ∧
 μ_1
 (IntKind.wrap IntKind.i64
 (a_7 + (1 : Int)),
 ()) <
 μ_1 (a_7, ()))) ∧
 (decide
 (a_7 <
 (↑(List.length
 (List.take (Int.toNat a_1) x.snd.fst)) :
 Int)) =
 false →
 (((0 : Int) = (0 : Int) ∧
 false = false ∧
 True ∧
 x.fst = x.fst ∧
 x.snd.fst = x.snd.fst ∧
 True ∧
 True ∧
 x.snd.fst = x.snd.fst ∧
 (↑(List.length x.snd.fst) : Int) =
 (↑(List.length x.snd.fst) :
 Int) ∧
 a_1 = a_1 ∧
 True ∧
 (↑(List.length a) : Int) =
 (↑(List.length a) : Int)) ∧
 (((0 : Int) = (0 : Int) ∧
 Value.slice none (0 : Nat) (0 : Nat) =
 Value.slice none (0 : Nat) (0 : Nat) ∧
 (0 : Int) = (0 : Int)) ∧
 (List.getD x.snd.fst (Int.toNat a_1)
 (Ty.dflt t33)).fst =
 (List.getD x.snd.fst (Int.toNat a_1)
 (Ty.dflt t33)).fst ∧
 (List.getD x.snd.fst (Int.toNat a_1)
 (Ty.dflt t33)).snd.fst =
 (List.getD x.snd.fst (Int.toNat a_1)
 (Ty.dflt t33)).snd.fst) ∧
 True ∧ a = a ∧ True) ∧
 ∃ (Z_2 :
 List Span × Bool × Int × Unit → Prop),
 ∃ (μ_2 :
 List Span × Bool × Int × Unit →
 Nat),
 Z_2 ([], false, (0 : Int), ()) ∧
 ∀ (a_10 : List Span) (a_11 : Bool)
 (a_12 : Int),
 Z_2 (a_10, a_11, a_12, ()) →
 (decide (a_12 < (↑(List.length a) : Int)) =
 true →
 ((0 : Int) ≤ a_12 ∧
 a_12 < (↑(List.length a) : Int)) ∧
 ((!a_11) = true →
 (decide
 ((List.getD x.snd.fst
 (Int.toNat a_1)
 (Ty.dflt t33)).fst <
 (List.getD a
 (Int.toNat a_12)
 (Ty.dflt
 t33)).fst) =
 true →
 (List.length a_10 +
 List.length
 [List.getD x.snd.fst
 (Int.toNat a_1)
 (Ty.dflt
 t33)]) *
 (16 : Nat) ≤
 (140737488355328 : Nat) ∧
 List.length a_10 +
 List.length
 [List.getD x.snd.fst
 (Int.toNat a_1)
 (Ty.dflt t33)] ≤
 maxLen ∧
 (List.length
 (a_10 ++
 [List.getD
 x.snd.fst
 (Int.toNat
 a_1)
 (Ty.dflt
 t33)]) +
 List.length
 [List.getD a
 (Int.toNat
 a_12)
 (Ty.dflt
 t33)]) *
 (16 : Nat) ≤
 (140737488355328 :
 Nat) ∧
 List.length
 (a_10 ++
 [List.getD
 x.snd.fst
 (Int.toNat
 a_1)
 (Ty.dflt
 t33)]) +
 List.length
 [List.getD a
 (Int.toNat
 a_12)
 (Ty.dflt
 t33)] ≤
 maxLen ∧
 ((IntKind.wrap
 IntKind.i64
 (a_12 +
 (1 :
 Int)) =
 IntKind.wrap
 IntKind.i64
 (a_12 +
 (1 :
 Int)) ∧
 true = true ∧
 True ∧
 x.fst =
 x.fst ∧
 x.snd.fst =
 x.snd.fst ∧
 True ∧
 True ∧
 x.snd.fst =
 x.snd.fst ∧
 (↑(List.length
 x.snd.fst) :
 Int) =
 (↑(List.length
 x.snd.fst) :
 Int) ∧
 a_1 =
 a_1 ∧
 True ∧
 (↑(List.length
 a) :
 Int) =
 (↑(List.length
 a) :
 Int)) ∧
 (((0 : Int) =
 (0 :
 Int) ∧
 Value.slice
 none
 (0 :
 Nat)
 (0 :
 Nat) =
 Value.slice
 none
 (0 :
 Nat)
 (0 :
 Nat) ∧
 (0 :
 Int) =
 (0 :
 Int)) ∧
 (List.getD
 x.snd.fst
 (Int.toNat
 a_1)
 (Ty.dflt
 t33)).fst =
 (List.getD
 x.snd.fst
 (Int.toNat
 a_1)
 (Ty.dflt
 t33)).fst ∧
 (List.getD
 x.snd.fst
 (Int.toNat
 a_1)
 (Ty.dflt
 t33)).snd.fst =
 (List.getD
 x.snd.fst
 (Int.toNat
 a_1)
 (Ty.dflt
 t33)).snd.fst) ∧
 a_10 ++
 [List.getD
 x.snd.fst
 (Int.toNat
 a_1)
 (Ty.dflt
 t33)] ++
 [List.getD
 a
 (Int.toNat
 a_12)
 (Ty.dflt
 t33)] =
 a_10 ++
 [List.getD
 x.snd.fst
 (Int.toNat
 a_1)
 (Ty.dflt
 t33)] ++
 [List.getD
 a
 (Int.toNat
 a_12)
 (Ty.dflt
 t33)] ∧
 a = a ∧
 True) ∧
 Z_2
 (a_10 ++
 [List.getD
 x.snd.fst
 (Int.toNat
 a_1)
 (Ty.dflt
 t33)] ++
 [List.getD a
 (Int.toNat
 a_12)
 (Ty.dflt
 t33)],
 true,
 IntKind.wrap
 IntKind.i64
 (a_12 +
 (1 :
 Int)),
 ()) ∧
 μ_2
 (a_10 ++
 [List.getD
 x.snd.fst
 (Int.toNat
 a_1)
 (Ty.dflt
 t33)] ++
 [List.getD
 a
 (Int.toNat
 a_12)
 (Ty.dflt
 t33)],
 true,
 IntKind.wrap
 IntKind.i64
 (a_12 +
 (1 :
 Int)),
 ()) <
 μ_2
 (a_10, a_11,
 a_12, ())) ∧
 (decide
 ((List.getD x.snd.fst
 (Int.toNat a_1)
 (Ty.dflt t33)).fst <
 (List.getD a
 (Int.toNat a_12)
 (Ty.dflt
 t33)).fst) =
 false →
 (((List.getD x.snd.fst
 (Int.toNat a_1)
 (Ty.dflt
 t33)).fst ==
 (List.getD a
 (Int.toNat a_12)
 (Ty.dflt
 t33)).fst) =
 true →
 (decide
 ((List.getD
 x.snd.fst
 (Int.toNat
 a_1)
 (Ty.dflt
 t33)).snd.fst <
 (List.getD a
 (Int.toNat
 a_12)
 (Ty.dflt
 t33)).snd.fst) =
 true →
 (List.length a_10 +
 List.length
 [List.getD
 x.snd.fst
 (Int.toNat
 a_1)
 (Ty.dflt
 t33)]) *
 (16 : Nat) ≤
 (140737488355328 :
 Nat) ∧
 List.length a_10 +
 List.length
 [List.getD
 x.snd.fst
 (Int.toNat
 a_1)
 (Ty.dflt
 t33)] ≤
 maxLen ∧
 (List.length
 (a_10 ++
 [List.getD
 x.snd.fst
 (Int.toNat
 a_1)
 (Ty.dflt
 t33)]) +
 List.length
 [List.getD
 a
 (Int.toNat
 a_12)
 (Ty.dflt
 t33)]) *
 (16 : Nat) ≤
 (140737488355328 :
 Nat) ∧
 List.length
 (a_10 ++
 [List.getD
 x.snd.fst
 (Int.toNat
 a_1)
 (Ty.dflt
 t33)]) +
 List.length
 [List.getD
 a
 (Int.toNat
 a_12)
 (Ty.dflt
 t33)] ≤
 maxLen ∧
 ((IntKind.wrap
 IntKind.i64
 (a_12 +
 (1 :
 Int)) =
 IntKind.wrap
 IntKind.i64
 (a_12 +
 (1 :
 Int)) ∧
 true =
 true ∧
 True ∧
 x.fst =
 x.fst ∧
 x.snd.fst =
 x.snd.fst ∧
 True ∧
 True ∧
 x.snd.fst =
 x.snd.fst ∧
 (↑(List.length
 x.snd.fst) :
 Int) =
 (↑(List.length
 x.snd.fst) :
 Int) ∧
 a_1 =
 a_1 ∧
 True ∧
 (↑(List.length
 a) :
 Int) =
 (↑(List.length
 a) :
 Int)) ∧
 (((0 :
 Int) =
 (0 :
 Int) ∧
 Value.slice
 none
 (0 :
 Nat)
 (0 :
 Nat) =
 Value.slice
 none
 (0 :
 Nat)
 (0 :
 Nat) ∧
 (0 :
 Int) =
 (0 :
 Int)) ∧
 (List.getD
 x.snd.fst
 (Int.toNat
 a_1)
 (Ty.dflt
 t33)).fst =
 (List.getD
 x.snd.fst
 (Int.toNat
 a_1)
 (Ty.dflt
 t33)).fst ∧
 (List.getD
 x.snd.fst
 (Int.toNat
 a_1)
 (Ty.dflt
 t33)).snd.fst =
 (List.getD
 x.snd.fst
 (Int.toNat
 a_1)
 (Ty.dflt
 t33)).snd.fst) ∧
 a_10 ++
 [List.getD
 x.snd.fst
 (Int.toNat
 a_1)
 (Ty.dflt
 t33)] ++
 [List.getD
 a
 (Int.toNat
 a_12)
 (Ty.dflt
 t33)] =
 a_10 ++
 [List.getD
 x.snd.fst
 (Int.toNat
 a_1)
 (Ty.dflt
 t33)] ++
 [List.getD
 a
 (Int.toNat
 a_12)
 (Ty.dflt
 t33)] ∧
 a =
 a ∧
 True) ∧
 Z_2
 (a_10 ++
 [List.getD
 x.snd.fst
 (Int.toNat
 a_1)
 (Ty.dflt
 t33)] ++
 [List.getD
 a
 (Int.toNat
 a_12)
 (Ty.dflt
 t33)],
 true,
 IntKind.wrap
 IntKind.i64
 (a_12 +
 (1 :
 Int)),
 ()) ∧
 μ_2
 (a_10 ++
 [List.getD
 x.snd.fst
 (Int.toNat
 a_1)
 (Ty.dflt
 t33)] ++
 [List.getD
 a
 (Int.toNat
 a_12)
 (Ty.dflt
 t33)],
 true,
 IntKind.wrap
 IntKind.i64
 (a_12 +
 (1 :
 Int)),
 ()) <
 μ_2
 (a_10,
 a_11,
 a_12,
 ())) ∧
 (decide
 ((List.getD
 x.snd.fst
 (Int.toNat
 a_1)
 (Ty.dflt
 t33)).snd.fst <
 (List.getD a
 (Int.toNat
 a_12)
 (Ty.dflt
 t33)).snd.fst) =
 false →
 (List.length a_10 +
 List.length
 [List.getD a
 (Int.toNat
 a_12)
 (Ty.dflt
 t33)]) *
 (16 : Nat) ≤
 (140737488355328 :
 Nat) ∧
 List.length a_10 +
 List.length
 [List.getD a
 (Int.toNat
 a_12)
 (Ty.dflt
 t33)] ≤
 maxLen ∧
 ((IntKind.wrap
 IntKind.i64
 (a_12 +
 (1 :
 Int)) =
 IntKind.wrap
 IntKind.i64
 (a_12 +
 (1 :
 Int)) ∧
 a_11 =
 a_11 ∧
 True ∧
 x.fst =
 x.fst ∧
 x.snd.fst =
 x.snd.fst ∧
 True ∧
 True ∧
 x.snd.fst =
 x.snd.fst ∧
 (↑(List.length
 x.snd.fst) :
 Int) =
 (↑(List.length
 x.snd.fst) :
 Int) ∧
 a_1 =
 a_1 ∧
 True ∧
 (↑(List.length
 a) :
 Int) =
 (↑(List.length
 a) :
 Int)) ∧
 (((0 : Int) =
 (0 :
 Int) ∧
 Value.slice
 none
 (0 :
 Nat)
 (0 :
 Nat) =
 Value.slice
 none
 (0 :
 Nat)
 (0 :
 Nat) ∧
 (0 :
 Int) =
 (0 :
 Int)) ∧
 (List.getD
 x.snd.fst
 (Int.toNat
 a_1)
 (Ty.dflt
 t33)).fst =
 (List.getD
 x.snd.fst
 (Int.toNat
 a_1)
 (Ty.dflt
 t33)).fst ∧
 (List.getD
 x.snd.fst
 (Int.toNat
 a_1)
 (Ty.dflt
 t33)).snd.fst =
 (List.getD
 x.snd.fst
 (Int.toNat
 a_1)
 (Ty.dflt
 t33)).snd.fst) ∧
 a_10 ++
 [List.getD
 a
 (Int.toNat
 a_12)
 (Ty.dflt
 t33)] =
 a_10 ++
 [List.getD
 a
 (Int.toNat
 a_12)
 (Ty.dflt
 t33)] ∧
 a = a ∧
 True) ∧
 Z_2
 (a_10 ++
 [List.getD
 a
 (Int.toNat
 a_12)
 (Ty.dflt
 t33)],
 a_11,
 IntKind.wrap
 IntKind.i64
 (a_12 +
 (1 :
 Int)),
 ()) ∧
 μ_2
 (a_10 ++
 [List.getD
 a
 (Int.toNat
 a_12)
 (Ty.dflt
 t33)],
 a_11,
 IntKind.wrap
 IntKind.i64
 (a_12 +
 (1 :
 Int)),
 ()) <
 μ_2
 (a_10,
 a_11,
 a_12,
 ()))) ∧
 (((List.getD x.snd.fst
 (Int.toNat a_1)
 (Ty.dflt
 t33)).fst ==
 (List.getD a
 (Int.toNat a_12)
 (Ty.dflt
 t33)).fst) =
 false →
 (List.length a_10 +
 List.length
 [List.getD a
 (Int.toNat
 a_12)
 (Ty.dflt
 t33)]) *
 (16 : Nat) ≤
 (140737488355328 :
 Nat) ∧
 List.length a_10 +
 List.length
 [List.getD a
 (Int.toNat
 a_12)
 (Ty.dflt
 t33)] ≤
 maxLen ∧
 ((IntKind.wrap
 IntKind.i64
 (a_12 +
 (1 :
 Int)) =
 IntKind.wrap
 IntKind.i64
 (a_12 +
 (1 :
 Int)) ∧
 a_11 = a_11 ∧
 True ∧
 x.fst =
 x.fst ∧
 x.snd.fst =
 x.snd.fst ∧
 True ∧
 True ∧
 x.snd.fst =
 x.snd.fst ∧
 (↑(List.length
 x.snd.fst) :
 Int) =
 (↑(List.length
 x.snd.fst) :
 Int) ∧
 a_1 =
 a_1 ∧
 True ∧
 (↑(List.length
 a) :
 Int) =
 (↑(List.length
 a) :
 Int)) ∧
 (((0 : Int) =
 (0 :
 Int) ∧
 Value.slice
 none
 (0 :
 Nat)
 (0 :
 Nat) =
 Value.slice
 none
 (0 :
 Nat)
 (0 :
 Nat) ∧
 (0 :
 Int) =
 (0 :
 Int)) ∧
 (List.getD
 x.snd.fst
 (Int.toNat
 a_1)
 (Ty.dflt
 t33)).fst =
 (List.getD
 x.snd.fst
 (Int.toNat
 a_1)
 (Ty.dflt
 t33)).fst ∧
 (List.getD
 x.snd.fst
 (Int.toNat
 a_1)
 (Ty.dflt
 t33)).snd.fst =
 (List.getD
 x.snd.fst
 (Int.toNat
 a_1)
 (Ty.dflt
 t33)).snd.fst) ∧
 a_10 ++
 [List.getD
 a
 (Int.toNat
 a_12)
 (Ty.dflt
 t33)] =
 a_10 ++
 [List.getD
 a
 (Int.toNat
 a_12)
 (Ty.dflt
 t33)] ∧
 a = a ∧
 True) ∧
 Z_2
 (a_10 ++
 [List.getD a
 (Int.toNat
 a_12)
 (Ty.dflt
 t33)],
 a_11,
 IntKind.wrap
 IntKind.i64
 (a_12 +
 (1 :
 Int)),
 ()) ∧
 μ_2
 (a_10 ++
 [List.getD
 a
 (Int.toNat
 a_12)
 (Ty.dflt
 t33)],
 a_11,
 IntKind.wrap
 IntKind.i64
 (a_12 +
 (1 :
 Int)),
 ()) <
 μ_2
 (a_10, a_11,
 a_12,
 ())))) ∧
 ((!a_11) = false →
 (List.length a_10 +
 List.length
 [List.getD a
 (Int.toNat a_12)
 (Ty.dflt t33)]) *
 (16 : Nat) ≤
 (140737488355328 : Nat) ∧
 List.length a_10 +
 List.length
 [List.getD a
 (Int.toNat a_12)
 (Ty.dflt t33)] ≤
 maxLen ∧
 ((IntKind.wrap IntKind.i64
 (a_12 + (1 : Int)) =
 IntKind.wrap
 IntKind.i64
 (a_12 + (1 : Int)) ∧
 a_11 = a_11 ∧
 True ∧
 x.fst = x.fst ∧
 x.snd.fst =
 x.snd.fst ∧
 True ∧
 True ∧
 x.snd.fst =
 x.snd.fst ∧
 (↑(List.length
 x.snd.fst) :
 Int) =
 (↑(List.length
 x.snd.fst) :
 Int) ∧
 a_1 =
 a_1 ∧
 True ∧
 (↑(List.length
 a) :
 Int) =
 (↑(List.length
 a) :
 Int)) ∧
 (((0 : Int) = (0 : Int) ∧
 Value.slice none
 (0 : Nat)
 (0 : Nat) =
 Value.slice none
 (0 : Nat)
 (0 : Nat) ∧
 (0 : Int) =
 (0 : Int)) ∧
 (List.getD x.snd.fst
 (Int.toNat
 a_1)
 (Ty.dflt
 t33)).fst =
 (List.getD
 x.snd.fst
 (Int.toNat
 a_1)
 (Ty.dflt
 t33)).fst ∧
 (List.getD x.snd.fst
 (Int.toNat
 a_1)
 (Ty.dflt
 t33)).snd.fst =
 (List.getD
 x.snd.fst
 (Int.toNat
 a_1)
 (Ty.dflt
 t33)).snd.fst) ∧
 a_10 ++
 [List.getD a
 (Int.toNat
 a_12)
 (Ty.dflt
 t33)] =
 a_10 ++
 [List.getD a
 (Int.toNat
 a_12)
 (Ty.dflt
 t33)] ∧
 a = a ∧ True) ∧
 Z_2
 (a_10 ++
 [List.getD a
 (Int.toNat a_12)
 (Ty.dflt t33)],
 a_11,
 IntKind.wrap
 IntKind.i64
 (a_12 + (1 : Int)),
 ()) ∧
 μ_2
 (a_10 ++
 [List.getD a
 (Int.toNat
 a_12)
 (Ty.dflt
 t33)],
 a_11,
 IntKind.wrap
 IntKind.i64
 (a_12 +
 (1 : Int)),
 ()) <
 μ_2
 (a_10, a_11, a_12,
 ()))) ∧
 (decide
 (a_12 < (↑(List.length a) : Int)) =
 false →
 ((!a_11) = true →
 (List.length a_10 +
 List.length
 [List.getD x.snd.fst
 (Int.toNat a_1)
 (Ty.dflt t33)]) *
 (16 : Nat) ≤
 (140737488355328 : Nat) ∧
 List.length a_10 +
 List.length
 [List.getD x.snd.fst
 (Int.toNat a_1)
 (Ty.dflt t33)] ≤
 maxLen ∧
 ((IntKind.wrap IntKind.i64
 (a_1 + (1 : Int)) =
 IntKind.wrap IntKind.i64
 (a_1 + (1 : Int)) ∧
 True ∧
 x.fst = x.fst ∧
 x.snd.fst =
 x.snd.fst ∧
 True ∧
 x.snd.fst =
 x.snd.fst ∧
 (↑(List.length
 x.snd.fst) :
 Int) =
 (↑(List.length
 x.snd.fst) :
 Int)) ∧
 ((0 : Int) = (0 : Int) ∧
 Value.slice none
 (0 : Nat)
 (0 : Nat) =
 Value.slice none
 (0 : Nat)
 (0 : Nat) ∧
 (0 : Int) =
 (0 : Int)) ∧
 a_10 ++
 [List.getD x.snd.fst
 (Int.toNat a_1)
 (Ty.dflt t33)] =
 a_10 ++
 [List.getD x.snd.fst
 (Int.toNat a_1)
 (Ty.dflt t33)] ∧
 True) ∧
 Z
 (a_10 ++
 [List.getD x.snd.fst
 (Int.toNat a_1)
 (Ty.dflt t33)],
 IntKind.wrap IntKind.i64
 (a_1 + (1 : Int)),
 ()) ∧
 μ
 (a_10 ++
 [List.getD x.snd.fst
 (Int.toNat a_1)
 (Ty.dflt t33)],
 IntKind.wrap
 IntKind.i64
 (a_1 + (1 : Int)),
 ()) <
 μ (a, a_1, ())) ∧
 ((!a_11) = false →
 ((IntKind.wrap IntKind.i64
 (a_1 + (1 : Int)) =
 IntKind.wrap IntKind.i64
 (a_1 + (1 : Int)) ∧
 True ∧
 x.fst = x.fst ∧
 x.snd.fst = x.snd.fst ∧
 True ∧
 x.snd.fst =
 x.snd.fst ∧
 (↑(List.length
 x.snd.fst) :
 Int) =
 (↑(List.length
 x.snd.fst) :
 Int)) ∧
 ((0 : Int) = (0 : Int) ∧
 Value.slice none (0 : Nat)
 (0 : Nat) =
 Value.slice none
 (0 : Nat) (0 : Nat) ∧
 (0 : Int) = (0 : Int)) ∧
 a_10 = a_10 ∧ True) ∧
 Z
 (a_10,
 IntKind.wrap IntKind.i64
 (a_1 + (1 : Int)),
 ()) ∧
 μ
 (a_10,
 IntKind.wrap IntKind.i64
 (a_1 + (1 : Int)),
 ()) <
 μ (a, a_1, ())))))))) ∧
 (decide (a_1 < (↑(List.length x.snd.fst) : Int)) = false →
 (x.fst, a, (0 : Int), ()) = newW x.fst x.snd.fst))))
theorem vcEq10 : fnVC E10 Try.f10 (bodyOf Try.f10) cRefNew = vc10 := by kernel_rfl
/- fn 11 -/
def hs11 : List (Nat × Nat × Hint) := []
def nm11 : List Nat := [3000000027]
noncomputable def E11 : Env := env tab [(26, cClone)] [] noGl hs11 nm11
def vc11 : Prop :=
 ∀ (x : Option (Int × List Span × List Span × Unit) × Unit),
 List.length (hidF x.fst) ≤ (10000 : Nat) →
 (Option.isNone x.fst = true → [] = hidF x.fst) ∧
 (Option.isNone x.fst = false →
 Option.isSome x.fst = true ∧
 List.length (List.getD (optL x.fst) (0 : Nat) (Ty.dflt t66)).snd.snd.fst ≤ (10000 : Nat) ∧
 (List.getD (optL x.fst) (0 : Nat) (Ty.dflt t66)).snd.snd.fst = hidF x.fst)
theorem vcEq11 : fnVC E11 Try.f11 (bodyOf Try.f11) cHidden = vc11 := by kernel_rfl
/- fn 12 -/
def hs12 : List (Nat × Nat × Hint) := []
def nm12 : List Nat := [3000000027]
noncomputable def E12 : Env := env tab [(16, cAll), (24, cSpans), (23, cLen), (11, cHidden), (29, cRefHidden)] [] noGl hs12 nm12
def vc12 : Prop :=
 ∀
 (x :
 Option (Int × List Span × List Span × Unit) ×
 Int × (Int × List Span × Int × Unit) × Unit),
 List.length (allF x.fst) ≤ (10000 : Nat) ∧ List.length (hidF x.fst) ≤ (10000 : Nat) ∧ RightL x.snd.snd.fst.snd.fst →
 ((x.snd.fst != x.snd.snd.fst.snd.snd.fst) = true → false = isF x.fst x.snd.fst x.snd.snd.fst) ∧
 ((x.snd.fst != x.snd.snd.fst.snd.snd.fst) = false →
 ((!Ty.beq t4 (Option.isNone x.fst) (x.snd.snd.fst.snd.snd.fst != (0 : Int))) = true →
 false = isF x.fst x.snd.fst x.snd.snd.fst) ∧
 ((!Ty.beq t4 (Option.isNone x.fst) (x.snd.snd.fst.snd.snd.fst != (0 : Int))) = false →
 (Option.isNone x.fst = true → true = isF x.fst x.snd.fst x.snd.snd.fst) ∧
 (Option.isNone x.fst = false →
 List.length (allF x.fst) ≤ (10000 : Nat) ∧
 (List.length (allF x.fst) ≤ maxLen ∧ List.length x.snd.snd.fst.snd.fst ≤ maxLen) ∧
 (decide (allF x.fst = x.snd.snd.fst.snd.fst) = true →
 True ∧
 ((lenF x.fst == x.snd.snd.fst.fst) = true →
 List.length (hidF x.fst) ≤ (10000 : Nat) ∧
 RightL x.snd.snd.fst.snd.fst ∧
 (List.length (hidF x.fst) ≤ maxLen ∧
 List.length (hideL x.snd.snd.fst.snd.fst) ≤ maxLen) ∧
 decide (hidF x.fst = hideL x.snd.snd.fst.snd.fst) =
 isF x.fst x.snd.fst x.snd.snd.fst) ∧
 ((lenF x.fst == x.snd.snd.fst.fst) = false → false = isF x.fst x.snd.fst x.snd.snd.fst)) ∧
 (decide (allF x.fst = x.snd.snd.fst.snd.fst) = false →
 false = isF x.fst x.snd.fst x.snd.snd.fst))))
theorem vcEq12 : fnVC E12 Try.f12 (bodyOf Try.f12) cIs = vc12 := by kernel_rfl
/- fn 13 -/
def hs13 : List (Nat × Nat × Hint) := [(0, 2, ⟨[.slot 11 t3, .cell 4 0 t3, .cell 4 1 t3], [1, 4, 9, 10], [4], []⟩)]
def nm13 : List Nat := [3000000027]
noncomputable def E13 : Env := env tab [(11, cHidden)] [] noGl hs13 nm13
def vc13 : Prop :=
 ∀ (x : Option (Int × List Span × List Span × Unit) × Int × Unit),
 List.length (hidF x.fst) ≤ (10000 : Nat) →
 List.length (hidF x.fst) ≤ (10000 : Nat) ∧
 (((0 : Int) = (0 : Int) ∧
 x.snd.fst = x.snd.fst ∧
 True ∧
 hidF x.fst = hidF x.fst ∧ (↑(List.length (hidF x.fst)) : Int) = (↑(List.length (hidF x.fst)) : Int)) ∧
 (0 : Int) = (0 : Int) ∧ (0 : Int) = (0 : Int)) ∧
 ∃ (Z : Int × Int × Int × Unit → Prop),
 ∃ (μ : Int × Int × Int × Unit → Nat),
 Z ((0 : Int), (0 : Int), (0 : Int), ()) ∧
 ∀ (a a_1 a_2 : Int),
 Z (a, a_1, a_2, ()) →
 (decide (a < (↑(List.length (hidF x.fst)) : Int)) = true →
 ((0 : Int) ≤ a ∧ a < (↑(List.length (hidF x.fst)) : Int)) ∧
 (decide ((List.getD (hidF x.fst) (Int.toNat a) (Ty.dflt t33)).fst < x.snd.fst) = true →
 (decide (x.snd.fst < (List.getD (hidF x.fst) (Int.toNat a) (Ty.dflt t33)).snd.fst) = true →
 (List.getD (hidF x.fst) (Int.toNat a) (Ty.dflt t33), true, ()) =
 overF x.fst x.snd.fst) ∧
 (decide (x.snd.fst < (List.getD (hidF x.fst) (Int.toNat a) (Ty.dflt t33)).snd.fst) =
 false →
 ((IntKind.wrap IntKind.i64 (a + (1 : Int)) = IntKind.wrap IntKind.i64 (a + (1 : Int)) ∧
 x.snd.fst = x.snd.fst ∧
 True ∧
 hidF x.fst = hidF x.fst ∧
 (↑(List.length (hidF x.fst)) : Int) = (↑(List.length (hidF x.fst)) : Int)) ∧
 a_1 = a_1 ∧ a_2 = a_2) ∧
 Z (IntKind.wrap IntKind.i64 (a + (1 : Int)), a_1, a_2, ()) ∧
 μ (IntKind.wrap IntKind.i64 (a + (1 : Int)), a_1, a_2, ()) < μ (a, a_1, a_2, ()))) ∧
 (decide ((List.getD (hidF x.fst) (Int.toNat a) (Ty.dflt t33)).fst < x.snd.fst) = false →
 ((IntKind.wrap IntKind.i64 (a + (1 : Int)) = IntKind.wrap IntKind.i64 (a + (1 : Int)) ∧
 x.snd.fst = x.snd.fst ∧
 True ∧
 hidF x.fst = hidF x.fst ∧
 (↑(List.length (hidF x.fst)) : Int) = (↑(List.length (hidF x.fst)) : Int)) ∧
 a_1 = a_1 ∧ a_2 = a_2) ∧
 Z (IntKind.wrap IntKind.i64 (a + (1 : Int)), a_1, a_2, ()) ∧
 μ (IntKind.wrap IntKind.i64 (a + (1 : Int)), a_1, a_2, ()) < μ (a, a_1, a_2, ()))) ∧
 (decide (a < (↑(List.length (hidF x.fst)) : Int)) = false →
 (((0 : Int), (0 : Int), ()), false, ()) = overF x.fst x.snd.fst)
theorem vcEq13 : fnVC E13 Try.f13 (bodyOf Try.f13) cOver = vc13 := by kernel_rfl
/- fn 14 -/
def hs14 : List (Nat × Nat × Hint) := [(0, 2, ⟨[.slot 10 t3, .cell 4 0 t3, .cell 4 1 t3], [1, 4, 8, 9], [4], []⟩)]
def nm14 : List Nat := [3000000027]
noncomputable def E14 : Env := env tab [(29, cRefHidden)] [] noGl hs14 nm14
def vc14 : Prop :=
 ∀ (x : (Int × List Span × Int × Unit) × Int × Unit),
 RightL x.fst.snd.fst →
 RightL x.fst.snd.fst ∧
 (((0 : Int) = (0 : Int) ∧
 x.snd.fst = x.snd.fst ∧
 True ∧
 hideL x.fst.snd.fst = hideL x.fst.snd.fst ∧
 (↑(List.length (hideL x.fst.snd.fst)) : Int) = (↑(List.length (hideL x.fst.snd.fst)) : Int)) ∧
 (0 : Int) = (0 : Int) ∧ (0 : Int) = (0 : Int)) ∧
 ∃ (Z : Int × Int × Int × Unit → Prop),
 ∃ (μ : Int × Int × Int × Unit → Nat),
 Z ((0 : Int), (0 : Int), (0 : Int), ()) ∧
 ∀ (a a_1 a_2 : Int),
 Z (a, a_1, a_2, ()) →
 (decide (a < (↑(List.length (hideL x.fst.snd.fst)) : Int)) = true →
 ((0 : Int) ≤ a ∧ a < (↑(List.length (hideL x.fst.snd.fst)) : Int)) ∧
 (decide (x.snd.fst > (List.getD (hideL x.fst.snd.fst) (Int.toNat a) (Ty.dflt t33)).fst) = true →
 (decide
 (x.snd.fst <
 (List.getD (hideL x.fst.snd.fst) (Int.toNat a) (Ty.dflt t33)).snd.fst) =
 true →
 List.getD (hideL x.fst.snd.fst) (Int.toNat a) (Ty.dflt t33) =
 overW (hideL x.fst.snd.fst) x.snd.fst) ∧
 (decide
 (x.snd.fst <
 (List.getD (hideL x.fst.snd.fst) (Int.toNat a) (Ty.dflt t33)).snd.fst) =
 false →
 ((IntKind.wrap IntKind.i64 (a + (1 : Int)) = IntKind.wrap IntKind.i64 (a + (1 : Int)) ∧
 x.snd.fst = x.snd.fst ∧
 True ∧
 hideL x.fst.snd.fst = hideL x.fst.snd.fst ∧
 (↑(List.length (hideL x.fst.snd.fst)) : Int) =
 (↑(List.length (hideL x.fst.snd.fst)) : Int)) ∧
 a_1 = a_1 ∧ a_2 = a_2) ∧
 Z (IntKind.wrap IntKind.i64 (a + (1 : Int)), a_1, a_2, ()) ∧
 μ (IntKind.wrap IntKind.i64 (a + (1 : Int)), a_1, a_2, ()) < μ (a, a_1, a_2, ()))) ∧
 (decide (x.snd.fst > (List.getD (hideL x.fst.snd.fst) (Int.toNat a) (Ty.dflt t33)).fst) =
 false →
 ((IntKind.wrap IntKind.i64 (a + (1 : Int)) = IntKind.wrap IntKind.i64 (a + (1 : Int)) ∧
 x.snd.fst = x.snd.fst ∧
 True ∧
 hideL x.fst.snd.fst = hideL x.fst.snd.fst ∧
 (↑(List.length (hideL x.fst.snd.fst)) : Int) =
 (↑(List.length (hideL x.fst.snd.fst)) : Int)) ∧
 a_1 = a_1 ∧ a_2 = a_2) ∧
 Z (IntKind.wrap IntKind.i64 (a + (1 : Int)), a_1, a_2, ()) ∧
 μ (IntKind.wrap IntKind.i64 (a + (1 : Int)), a_1, a_2, ()) < μ (a, a_1, a_2, ()))) ∧
 (decide (a < (↑(List.length (hideL x.fst.snd.fst)) : Int)) = false →
 ((-1 : Int), (0 : Int), ()) = overW (hideL x.fst.snd.fst) x.snd.fst)
theorem vcEq14 : fnVC E14 Try.f14 (bodyOf Try.f14) cRefOver = vc14 := by kernel_rfl
/- fn 15 -/
def hs15 : List (Nat × Nat × Hint) := [(0, 9, ⟨[.rowS 8 900000008 t33 33, .slot 46 t3, .cell 42 0 (mapT t33 t62)], [1, 6, 7, 44, 45], [42], []⟩)]
def nm15 : List Nat := [3000000027]
noncomputable def E15 : Env := env tab [(23, cLen), (30, cNormal), (31, cDelta), (16, cAll), (32, cMap), (9, cNew)] [] noGl hs15 nm15
def vc15 : Prop :=
 ∀
 (x :
 Option (Int × List Span × List Span × Unit) ×
 List Chg × Unit),
 okF x.fst ∧ lenF x.fst ≤ (1099511627776 : Int) ∧ (0 : Int) ≤ lenF x.fst ∧ List.length x.snd.fst ≤ (1000 : Nat) →
 True ∧
 List.length x.snd.fst ≤ maxLen ∧
 ((!normal x.snd.fst) = true → (none, (4 : Int), ()) = shiftF x.fst x.snd.fst) ∧
 ((!normal x.snd.fst) = false →
 (decide ((↑(List.length x.snd.fst) : Int) > (0 : Int)) = true →
 ((0 : Int) ≤ IntKind.wrap IntKind.i64 ((↑(List.length x.snd.fst) : Int) - (1 : Int)) ∧
 IntKind.wrap IntKind.i64 ((↑(List.length x.snd.fst) : Int) - (1 : Int)) <
 (↑(List.length x.snd.fst) : Int)) ∧
 (decide
 ((List.getD x.snd.fst
 (Int.toNat
 (IntKind.wrap IntKind.i64 ((↑(List.length x.snd.fst) : Int) - (1 : Int))))
 (Ty.dflt t43)).fst.snd.fst >
 lenF x.fst) =
 true →
 (none, (1 : Int), ()) = shiftF x.fst x.snd.fst) ∧
 (decide
 ((List.getD x.snd.fst
 (Int.toNat
 (IntKind.wrap IntKind.i64 ((↑(List.length x.snd.fst) : Int) - (1 : Int))))
 (Ty.dflt t43)).fst.snd.fst >
 lenF x.fst) =
 false →
 List.length x.snd.fst ≤ maxLen ∧
 (decide (IntKind.wrap IntKind.i64 (lenF x.fst + delta x.snd.fst) > (1099511627776 : Int)) =
 true →
 (none, (1 : Int), ()) = shiftF x.fst x.snd.fst) ∧
 (decide (IntKind.wrap IntKind.i64 (lenF x.fst + delta x.snd.fst) > (1099511627776 : Int)) =
 false →
 List.length (allF x.fst) ≤ (10000 : Nat) ∧
 (((0 : Int) = (0 : Int) ∧
 True ∧
 x.snd.fst = x.snd.fst ∧
 lenF x.fst = lenF x.fst ∧
 True ∧
 allF x.fst = allF x.fst ∧
 (↑(List.length (allF x.fst)) : Int) =
 (↑(List.length (allF x.fst)) : Int)) ∧
 (([] : List (Span × Unit × Unit)) = [] ∧ True) ∧ True ∧ True) ∧
 ∃ (Z :
 List Span × Int × List (Span × Unit × Unit) × Unit →
 Prop),
 ∃ (μ :
 List Span × Int × List (Span × Unit × Unit) × Unit →
 Nat),
 Z ([], (0 : Int), [], ()) ∧
 ∀ (a : List Span) (a_1 : Int)
 (a_2 : List (Span × Unit × Unit)),
 Z (a, a_1, a_2, ()) →
 (decide (a_1 < (↑(List.length (allF x.fst)) : Int)) = true →
 ((0 : Int) ≤ a_1 ∧ a_1 < (↑(List.length (allF x.fst)) : Int)) ∧
 List.length x.snd.fst ≤ maxLen ∧
 List.length x.snd.fst ≤ maxLen ∧
 (Option.isSome
 (mget t33 t62
 ((mapP x.snd.fst
 (List.getD (allF x.fst) (Int.toNat a_1)
 (Ty.dflt t33)).fst
 (1 : Int)).fst,
 (mapP x.snd.fst
 (List.getD (allF x.fst) (Int.toNat a_1)
 (Ty.dflt t33)).snd.fst
 (0 : Int)).fst,
 ())
 a_2) =
 true →
 ((IntKind.wrap IntKind.i64 (a_1 + (1 : Int)) =
 IntKind.wrap IntKind.i64 (a_1 + (1 : Int)) ∧
 True ∧
 x.snd.fst = x.snd.fst ∧
 lenF x.fst = lenF x.fst ∧
 True ∧
 allF x.fst = allF x.fst ∧
 (↑(List.length (allF x.fst)) : Int) =
 (↑(List.length (allF x.fst)) : Int)) ∧
 (a_2 = a_2 ∧ True) ∧ a = a ∧ True) ∧
 Z (a, IntKind.wrap IntKind.i64 (a_1 + (1 : Int)), a_2, ()) ∧
 μ (a, IntKind.wrap IntKind.i64 (a_1 + (1 : Int)), a_2, ()) <
 μ (a, a_1, a_2, ())) ∧
 (Option.isSome
 (mget t33 t62
 ((mapP x.snd.fst
 (List.getD (allF x.fst) (Int.toNat a_1)
 (Ty.dflt t33)).fst
 (1 : Int)).fst,
 (mapP x.snd.fst
 (List.getD (allF x.fst) (Int.toNat a_1)
 (Ty.dflt t33)).snd.fst
 (0 : Int)).fst,
 ())
 a_2) =
 false →
 (decide
 ((mapP x.snd.fst
 (List.getD (allF x.fst) (Int.toNat a_1)
 (Ty.dflt t33)).fst
 (1 : Int)).fst ≥
 (mapP x.snd.fst
 (List.getD (allF x.fst) (Int.toNat a_1)
 (Ty.dflt t33)).snd.fst
 (0 : Int)).fst) =
 true →
 ((IntKind.wrap IntKind.i64 (a_1 + (1 : Int)) =
 IntKind.wrap IntKind.i64 (a_1 + (1 : Int)) ∧
 True ∧
 x.snd.fst = x.snd.fst ∧
 lenF x.fst = lenF x.fst ∧
 True ∧
 allF x.fst = allF x.fst ∧
 (↑(List.length (allF x.fst)) : Int) =
 (↑(List.length (allF x.fst)) : Int)) ∧
 (a_2 = a_2 ∧ True) ∧ a = a ∧ True) ∧
 Z
 (a, IntKind.wrap IntKind.i64 (a_1 + (1 : Int)), a_2,
 ()) ∧
 μ
 (a, IntKind.wrap IntKind.i64 (a_1 + (1 : Int)), a_2,
 ()) <
 μ (a, a_1, a_2, ())) ∧
 (decide
 ((mapP x.snd.fst
 (List.getD (allF x.fst) (Int.toNat a_1)
 (Ty.dflt t33)).fst
 (1 : Int)).fst ≥
 (mapP x.snd.fst
 (List.getD (allF x.fst) (Int.toNat a_1)
 (Ty.dflt t33)).snd.fst
 (0 : Int)).fst) =
 false →
 mget t33 t62
 ((mapP x.snd.fst
 (List.getD (allF x.fst) (Int.toNat a_1)
 (Ty.dflt t33)).fst
 (1 : Int)).fst,
 (mapP x.snd.fst
 (List.getD (allF x.fst) (Int.toNat a_1)
 (Ty.dflt t33)).snd.fst
 (0 : Int)).fst,
 ())
 a_2 =
 none ∧
 (List.length a +
 List.length
 [((mapP x.snd.fst
 (List.getD (allF x.fst) (Int.toNat a_1)
 (Ty.dflt t33)).fst
 (1 : Int)).fst,
 (mapP x.snd.fst
 (List.getD (allF x.fst) (Int.toNat a_1)
 (Ty.dflt t33)).snd.fst
 (0 : Int)).fst,
 ())]) *
 (16 : Nat) ≤
 (140737488355328 : Nat) ∧
 List.length a +
 List.length
 [((mapP x.snd.fst
 (List.getD (allF x.fst) (Int.toNat a_1)
 (Ty.dflt t33)).fst
 (1 : Int)).fst,
 (mapP x.snd.fst
 (List.getD (allF x.fst) (Int.toNat a_1)
 (Ty.dflt t33)).snd.fst
 (0 : Int)).fst,
 ())] ≤
 maxLen ∧
 ((IntKind.wrap IntKind.i64 (a_1 + (1 : Int)) =
 IntKind.wrap IntKind.i64 (a_1 + (1 : Int)) ∧
 True ∧
 x.snd.fst = x.snd.fst ∧
 lenF x.fst = lenF x.fst ∧
 True ∧
 allF x.fst = allF x.fst ∧
 (↑(List.length (allF x.fst)) : Int) =
 (↑(List.length (allF x.fst)) :
 Int)) ∧
 (a_2 ++
 [(((mapP x.snd.fst
 (List.getD (allF x.fst)
 (Int.toNat a_1)
 (Ty.dflt t33)).fst
 (1 : Int)).fst,
 (mapP x.snd.fst
 (List.getD (allF x.fst)
 (Int.toNat a_1)
 (Ty.dflt t33)).snd.fst
 (0 : Int)).fst,
 ()),
 (), ())] =
 a_2 ++
 [(((mapP x.snd.fst
 (List.getD (allF x.fst)
 (Int.toNat a_1)
 (Ty.dflt t33)).fst
 (1 : Int)).fst,
 (mapP x.snd.fst
 (List.getD (allF x.fst)
 (Int.toNat a_1)
 (Ty.dflt t33)).snd.fst
 (0 : Int)).fst,
 ()),
 (), ())] ∧
 True) ∧
 a ++
 [((mapP x.snd.fst
 (List.getD (allF x.fst)
 (Int.toNat a_1)
 (Ty.dflt t33)).fst
 (1 : Int)).fst,
 (mapP x.snd.fst
 (List.getD (allF x.fst)
 (Int.toNat a_1)
 (Ty.dflt t33)).snd.fst
 (0 : Int)).fst,
 ())] =
 a ++
 [((mapP x.snd.fst
 (List.getD (allF x.fst)
 (Int.toNat a_1)
 (Ty.dflt t33)).fst
 (1 : Int)).fst,
 (mapP x.snd.fst
 (List.getD (allF x.fst)
 (Int.toNat a_1)
 (Ty.dflt t33)).snd.fst
 (0 : Int)).fst,
 ())] ∧
 True) ∧
 Z
 (a ++
 [((mapP x.snd.fst
 (List.getD (allF x.fst)
 (Int.toNat a_1)
 (Ty.dflt t33)).fst
 (1 : Int)).fst,
 (mapP x.snd.fst
 (List.getD (allF x.fst)
 (Int.toNat a_1)
 (Ty.dflt t33)).snd.fst
 (0 : Int)).fst,
 ())],
 IntKind.wrap IntKind.i64 (a_1 + (1 : Int)),
 a_2 ++
 [(((mapP x.snd.fst
 (List.getD (allF x.fst)
 (Int.toNat a_1)
 (Ty.dflt t33)).fst
 (1 : Int)).fst,
 (mapP x.snd.fst
 (List.getD (allF x.fst)
 (Int.toNat a_1)
 (Ty.dflt t33)).snd.fst
 (0 : Int)).fst,
 ()),
 (), ())],
 ()) ∧
 μ
 (a ++
 [((mapP x.snd.fst
 (List.getD (allF x.fst)
 (Int.toNat a_1)
 (Ty.dflt t33)).fst
 (1 : Int)).fst,
 (mapP x.snd.fst
 (List.getD (allF x.fst)
 (Int.toNat a_1)
 (Ty.dflt t33)).snd.fst
 (0 : Int)).fst,
 ())],
 IntKind.wrap IntKind.i64 (a_1 + (1 : Int)),
 a_2 ++
 [(((mapP x.snd.fst
 (List.getD (allF x.fst)
 (Int.toNat a_1)
 (Ty.dflt t33)).fst
 (1 : Int)).fst,
 (mapP x.snd.fst
 (List.getD (allF x.fst)
 (Int.toNat a_1)
 (Ty.dflt t33)).snd.fst
 (0 : Int)).fst,
 ()),
 (), ())],
 ()) <
 μ (a, a_1, a_2, ())))) ∧
 (decide (a_1 < (↑(List.length (allF x.fst)) : Int)) = false →
 List.length x.snd.fst ≤ maxLen ∧
 List.length a ≤ maxLen ∧
 newF (IntKind.wrap IntKind.i64 (lenF x.fst + delta x.snd.fst)) a =
 shiftF x.fst x.snd.fst)))) ∧
 (decide ((↑(List.length x.snd.fst) : Int) > (0 : Int)) = false →
 List.length x.snd.fst ≤ maxLen ∧
 (decide (IntKind.wrap IntKind.i64 (lenF x.fst + delta x.snd.fst) > (1099511627776 : Int)) = true →
 (none, (1 : Int), ()) = shiftF x.fst x.snd.fst) ∧
 (decide (IntKind.wrap IntKind.i64 (lenF x.fst + delta x.snd.fst) > (1099511627776 : Int)) = false →
 List.length (allF x.fst) ≤ (10000 : Nat) ∧
 (((0 : Int) = (0 : Int) ∧
 True ∧
 x.snd.fst = x.snd.fst ∧
 lenF x.fst = lenF x.fst ∧
 True ∧
 allF x.fst = allF x.fst ∧
 (↑(List.length (allF x.fst)) : Int) = (↑(List.length (allF x.fst)) : Int)) ∧
 (([] : List (Span × Unit × Unit)) = [] ∧ True) ∧ True ∧ True) ∧
 ∃ (Z : List Span × Int × List (Span × Unit × Unit) × Unit → Prop),
 ∃ (μ :
 List Span × Int × List (Span × Unit × Unit) × Unit → Nat),
 Z ([], (0 : Int), [], ()) ∧
 ∀ (a : List Span) (a_1 : Int)
 (a_2 : List (Span × Unit × Unit)),
 Z (a, a_1, a_2, ()) →
 (decide (a_1 < (↑(List.length (allF x.fst)) : Int)) = true →
 ((0 : Int) ≤ a_1 ∧ a_1 < (↑(List.length (allF x.fst)) : Int)) ∧
 List.length x.snd.fst ≤ maxLen ∧
 List.length x.snd.fst ≤ maxLen ∧
 (Option.isSome
 (mget t33 t62
 ((mapP x.snd.fst
 (List.getD (allF x.fst) (Int.toNat a_1) (Ty.dflt t33)).fst
 (1 : Int)).fst,
 (mapP x.snd.fst
 (List.getD (allF x.fst) (Int.toNat a_1)
 (Ty.dflt t33)).snd.fst
 (0 : Int)).fst,
 ())
 a_2) =
 true →
 ((IntKind.wrap IntKind.i64 (a_1 + (1 : Int)) =
 IntKind.wrap IntKind.i64 (a_1 + (1 : Int)) ∧
 True ∧
 x.snd.fst = x.snd.fst ∧
 lenF x.fst = lenF x.fst ∧
 True ∧
 allF x.fst = allF x.fst ∧
 (↑(List.length (allF x.fst)) : Int) =
 (↑(List.length (allF x.fst)) : Int)) ∧
 (a_2 = a_2 ∧ True) ∧ a = a ∧ True) ∧
 Z (a, IntKind.wrap IntKind.i64 (a_1 + (1 : Int)), a_2, ()) ∧
 μ (a, IntKind.wrap IntKind.i64 (a_1 + (1 : Int)), a_2, ()) <
 μ (a, a_1, a_2, ())) ∧
 (Option.isSome
 (mget t33 t62
 ((mapP x.snd.fst
 (List.getD (allF x.fst) (Int.toNat a_1) (Ty.dflt t33)).fst
 (1 : Int)).fst,
 (mapP x.snd.fst
 (List.getD (allF x.fst) (Int.toNat a_1)
 (Ty.dflt t33)).snd.fst
 (0 : Int)).fst,
 ())
 a_2) =
 false →
 (decide
 ((mapP x.snd.fst
 (List.getD (allF x.fst) (Int.toNat a_1)
 (Ty.dflt t33)).fst
 (1 : Int)).fst ≥
 (mapP x.snd.fst
 (List.getD (allF x.fst) (Int.toNat a_1)
 (Ty.dflt t33)).snd.fst
 (0 : Int)).fst) =
 true →
 ((IntKind.wrap IntKind.i64 (a_1 + (1 : Int)) =
 IntKind.wrap IntKind.i64 (a_1 + (1 : Int)) ∧
 True ∧
 x.snd.fst = x.snd.fst ∧
 lenF x.fst = lenF x.fst ∧
 True ∧
 allF x.fst = allF x.fst ∧
 (↑(List.length (allF x.fst)) : Int) =
 (↑(List.length (allF x.fst)) : Int)) ∧
 (a_2 = a_2 ∧ True) ∧ a = a ∧ True) ∧
 Z (a, IntKind.wrap IntKind.i64 (a_1 + (1 : Int)), a_2, ()) ∧
 μ (a, IntKind.wrap IntKind.i64 (a_1 + (1 : Int)), a_2, ()) <
 μ (a, a_1, a_2, ())) ∧
 (decide
 ((mapP x.snd.fst
 (List.getD (allF x.fst) (Int.toNat a_1)
 (Ty.dflt t33)).fst
 (1 : Int)).fst ≥
 (mapP x.snd.fst
 (List.getD (allF x.fst) (Int.toNat a_1)
 (Ty.dflt t33)).snd.fst
 (0 : Int)).fst) =
 false →
 mget t33 t62
 ((mapP x.snd.fst
 (List.getD (allF x.fst) (Int.toNat a_1)
 (Ty.dflt t33)).fst
 (1 : Int)).fst,
 (mapP x.snd.fst
 (List.getD (allF x.fst) (Int.toNat a_1)
 (Ty.dflt t33)).snd.fst
 (0 : Int)).fst,
 ())
 a_2 =
 none ∧
 (List.length a +
 List.length
 [((mapP x.snd.fst
 (List.getD (allF x.fst) (Int.toNat a_1)
 (Ty.dflt t33)).fst
 (1 : Int)).fst,
 (mapP x.snd.fst
 (List.getD (allF x.fst) (Int.toNat a_1)
 (Ty.dflt t33)).snd.fst
 (0 : Int)).fst,
 ())]) *
 (16 : Nat) ≤
 (140737488355328 : Nat) ∧
 List.length a +
 List.length
 [((mapP x.snd.fst
 (List.getD (allF x.fst) (Int.toNat a_1)
 (Ty.dflt t33)).fst
 (1 : Int)).fst,
 (mapP x.snd.fst
 (List.getD (allF x.fst) (Int.toNat a_1)
 (Ty.dflt t33)).snd.fst
 (0 : Int)).fst,
 ())] ≤
 maxLen ∧
 ((IntKind.wrap IntKind.i64 (a_1 + (1 : Int)) =
 IntKind.wrap IntKind.i64 (a_1 + (1 : Int)) ∧
 True ∧
 x.snd.fst = x.snd.fst ∧
 lenF x.fst = lenF x.fst ∧
 True ∧
 allF x.fst = allF x.fst ∧
 (↑(List.length (allF x.fst)) : Int) =
 (↑(List.length (allF x.fst)) : Int)) ∧
 (a_2 ++
 [(((mapP x.snd.fst
 (List.getD (allF x.fst)
 (Int.toNat a_1) (Ty.dflt t33)).fst
 (1 : Int)).fst,
 (mapP x.snd.fst
 (List.getD (allF x.fst)
 (Int.toNat a_1)
 (Ty.dflt t33)).snd.fst
 (0 : Int)).fst,
 ()),
 (), ())] =
 a_2 ++
 [(((mapP x.snd.fst
 (List.getD (allF x.fst)
 (Int.toNat a_1) (Ty.dflt t33)).fst
 (1 : Int)).fst,
 (mapP x.snd.fst
 (List.getD (allF x.fst)
 (Int.toNat a_1)
 (Ty.dflt t33)).snd.fst
 (0 : Int)).fst,
 ()),
 (), ())] ∧
 True) ∧
 a ++
 [((mapP x.snd.fst
 (List.getD (allF x.fst) (Int.toNat a_1)
 (Ty.dflt t33)).fst
 (1 : Int)).fst,
 (mapP x.snd.fst
 (List.getD (allF x.fst) (Int.toNat a_1)
 (Ty.dflt t33)).snd.fst
 (0 : Int)).fst,
 ())] =
 a ++
 [((mapP x.snd.fst
 (List.getD (allF x.fst) (Int.toNat a_1)
 (Ty.dflt t33)).fst
 (1 : Int)).fst,
 (mapP x.snd.fst
 (List.getD (allF x.fst) (Int.toNat a_1)
 (Ty.dflt t33)).snd.fst
 (0 : Int)).fst,
 ())] ∧
 True) ∧
 Z
 (a ++
 [((mapP x.snd.fst
 (List.getD (allF x.fst) (Int.toNat a_1)
 (Ty.dflt t33)).fst
 (1 : Int)).fst,
 (mapP x.snd.fst
 (List.getD (allF x.fst) (Int.toNat a_1)
 (Ty.dflt t33)).snd.fst
 (0 : Int)).fst,
 ())],
 IntKind.wrap IntKind.i64 (a_1 + (1 : Int)),
 a_2 ++
 [(((mapP x.snd.fst
 (List.getD (allF x.fst) (Int.toNat a_1)
 (Ty.dflt t33)).fst
 (1 : Int)).fst,
 (mapP x.snd.fst
 (List.getD (allF x.fst) (Int.toNat a_1)
 (Ty.dflt t33)).snd.fst
 (0 : Int)).fst,
 ()),
 (), ())],
 ()) ∧
 μ
 (a ++
 [((mapP x.snd.fst
 (List.getD (allF x.fst) (Int.toNat a_1)
 (Ty.dflt t33)).fst
 (1 : Int)).fst,
 (mapP x.snd.fst
 (List.getD (allF x.fst) (Int.toNat a_1)
 (Ty.dflt t33)).snd.fst
 (0 : Int)).fst,
 ())],
 IntKind.wrap IntKind.i64 (a_1 + (1 : Int)),
 a_2 ++
 [(((mapP x.snd.fst
 (List.getD (allF x.fst)
 (Int.toNat a_1) (Ty.dflt t33)).fst
 (1 : Int)).fst,
 (mapP x.snd.fst
 (List.getD (allF x.fst)
 (Int.toNat a_1)
 (Ty.dflt t33)).snd.fst
 (0 : Int)).fst,
 ()),
 (), ())],
 ()) <
 μ (a, a_1, a_2, ())))) ∧
 (decide (a_1 < (↑(List.length (allF x.fst)) : Int)) = false →
 List.length x.snd.fst ≤ maxLen ∧
 List.length a ≤ maxLen ∧
 newF (IntKind.wrap IntKind.i64 (lenF x.fst + delta x.snd.fst)) a =
 shiftF x.fst x.snd.fst))))
theorem vcEq15 : fnVC E15 Try.f15 (bodyOf Try.f15) cShift = vc15 := by kernel_rfl
/- fn 16 -/
def hs16 : List (Nat × Nat × Hint) := []
def nm16 : List Nat := [3000000027]
noncomputable def E16 : Env := env tab [(26, cClone)] [] noGl hs16 nm16
def vc16 : Prop :=
 ∀ (x : Option (Int × List Span × List Span × Unit) × Unit),
 List.length (allF x.fst) ≤ (10000 : Nat) →
 (Option.isNone x.fst = true → [] = allF x.fst) ∧
 (Option.isNone x.fst = false →
 Option.isSome x.fst = true ∧
 List.length (List.getD (optL x.fst) (0 : Nat) (Ty.dflt t66)).snd.fst ≤ (10000 : Nat) ∧
 (List.getD (optL x.fst) (0 : Nat) (Ty.dflt t66)).snd.fst = allF x.fst)
theorem vcEq16 : fnVC E16 Try.f16 (bodyOf Try.f16) cAll = vc16 := by kernel_rfl
/- fn 18 -/
def hs18 : List (Nat × Nat × Hint) := []
def nm18 : List Nat := [3000000027]
noncomputable def E18 : Env := env tab [(10, cRefNew)] [] noGl hs18 nm18
def vc18 : Prop :=
 ∀ (x : (Int × List Span × Int × Unit) × Span × Unit),
 List.length x.fst.snd.fst ≤ (10000 : Nat) →
 ((0 : Nat) + List.length x.fst.snd.fst) * (16 : Nat) ≤ (140737488355328 : Nat) ∧
 (0 : Nat) + List.length x.fst.snd.fst ≤ maxLen ∧
 (List.length ([] ++ x.fst.snd.fst) + List.length [x.snd.fst]) * (16 : Nat) ≤ (140737488355328 : Nat) ∧
 List.length ([] ++ x.fst.snd.fst) + List.length [x.snd.fst] ≤ maxLen ∧
 List.length ([] ++ x.fst.snd.fst ++ [x.snd.fst]) ≤ maxLen ∧
 newW x.fst.fst ([] ++ x.fst.snd.fst ++ [x.snd.fst]) = newW x.fst.fst (x.fst.snd.fst ++ [x.snd.fst])
theorem vcEq18 : fnVC E18 Try.f18 (bodyOf Try.f18) cRefAdd = vc18 := by kernel_rfl
/- fn 20 -/
def hs20 : List (Nat × Nat × Hint) := [(0, 5, ⟨[.rowS 5 900000005 t33 33, .slot 29 t3], [2, 3, 4, 27, 28], [2, 3, 4], []⟩)]
def nm20 : List Nat := [3000000027]
noncomputable def E20 : Env := env tab [(10, cRefNew)] [] noGl hs20 nm20
def vc20 : Prop :=
 ∀ (x : (Int × List Span × Int × Unit) × Span × Unit),
 List.length x.fst.snd.fst ≤ (10000 : Nat) →
 (decide (x.snd.fst.fst < (0 : Int)) = true → ((0 : Int), [], (1 : Int), ()) = removeW x.fst x.snd.fst) ∧
 (decide (x.snd.fst.fst < (0 : Int)) = false →
 (decide (x.snd.fst.fst > x.snd.fst.snd.fst) = true → ((0 : Int), [], (1 : Int), ()) = removeW x.fst x.snd.fst) ∧
 (decide (x.snd.fst.fst > x.snd.fst.snd.fst) = false →
 (decide (x.snd.fst.snd.fst > x.fst.fst) = true → ((0 : Int), [], (1 : Int), ()) = removeW x.fst x.snd.fst) ∧
 (decide (x.snd.fst.snd.fst > x.fst.fst) = false →
 (((0 : Int) = (0 : Int) ∧
 True ∧
 True ∧
 True ∧
 True ∧
 x.fst.snd.fst = x.fst.snd.fst ∧
 (↑(List.length x.fst.snd.fst) : Int) = (↑(List.length x.fst.snd.fst) : Int)) ∧
 ((x.fst.fst = x.fst.fst ∧ x.fst.snd.fst = x.fst.snd.fst ∧ x.fst.snd.snd.fst = x.fst.snd.snd.fst) ∧
 (x.snd.fst.fst = x.snd.fst.fst ∧ x.snd.fst.snd.fst = x.snd.fst.snd.fst) ∧
 (0 : Int) = (0 : Int) ∧
 Value.slice none (0 : Nat) (0 : Nat) = Value.slice none (0 : Nat) (0 : Nat) ∧
 (0 : Int) = (0 : Int)) ∧
 True ∧ True) ∧
 ∃ (Z : List Span × Int × Unit → Prop),
 ∃ (μ : List Span × Int × Unit → Nat),
 Z ([], (0 : Int), ()) ∧
 ∀ (a : List Span) (a_1 : Int),
 Z (a, a_1, ()) →
 (decide (a_1 < (↑(List.length x.fst.snd.fst) : Int)) = true →
 ((0 : Int) ≤ a_1 ∧ a_1 < (↑(List.length x.fst.snd.fst) : Int)) ∧
 (decide
 ((List.getD x.fst.snd.fst (Int.toNat a_1) (Ty.dflt t33)).fst >
 x.snd.fst.snd.fst) =
 true →
 (List.length a +
 List.length [List.getD x.fst.snd.fst (Int.toNat a_1) (Ty.dflt t33)]) *
 (16 : Nat) ≤
 (140737488355328 : Nat) ∧
 List.length a +
 List.length [List.getD x.fst.snd.fst (Int.toNat a_1) (Ty.dflt t33)] ≤
 maxLen ∧
 ((IntKind.wrap IntKind.i64 (a_1 + (1 : Int)) =
 IntKind.wrap IntKind.i64 (a_1 + (1 : Int)) ∧
 True ∧
 True ∧
 True ∧
 True ∧
 x.fst.snd.fst = x.fst.snd.fst ∧
 (↑(List.length x.fst.snd.fst) : Int) =
 (↑(List.length x.fst.snd.fst) : Int)) ∧
 ((x.fst.fst = x.fst.fst ∧
 x.fst.snd.fst = x.fst.snd.fst ∧
 x.fst.snd.snd.fst = x.fst.snd.snd.fst) ∧
 (x.snd.fst.fst = x.snd.fst.fst ∧
 x.snd.fst.snd.fst = x.snd.fst.snd.fst) ∧
 (0 : Int) = (0 : Int) ∧
 Value.slice none (0 : Nat) (0 : Nat) =
 Value.slice none (0 : Nat) (0 : Nat) ∧
 (0 : Int) = (0 : Int)) ∧
 a ++ [List.getD x.fst.snd.fst (Int.toNat a_1) (Ty.dflt t33)] =
 a ++ [List.getD x.fst.snd.fst (Int.toNat a_1) (Ty.dflt t33)] ∧
 True) ∧
 Z
 (a ++ [List.getD x.fst.snd.fst (Int.toNat a_1) (Ty.dflt t33)],
 IntKind.wrap IntKind.i64 (a_1 + (1 : Int)), ()) ∧
 μ
 (a ++ [List.getD x.fst.snd.fst (Int.toNat a_1) (Ty.dflt t33)],
 IntKind.wrap IntKind.i64 (a_1 + (1 : Int)), ()) <
 μ (a, a_1, ())) ∧
 (decide
 ((List.getD x.fst.snd.fst (Int.toNat a_1) (Ty.dflt t33)).fst >
 x.snd.fst.snd.fst) =
 false →
 (decide
 ((List.getD x.fst.snd.fst (Int.toNat a_1) (Ty.dflt t33)).snd.fst <
 x.snd.fst.fst) =
 true →
 (List.length a +
 List.length [List.getD x.fst.snd.fst (Int.toNat a_1) (Ty.dflt t33)]) *
 (16 : Nat) ≤
 (140737488355328 : Nat) ∧
 List.length a +
 List.length [List.getD x.fst.snd.fst (Int.toNat a_1) (Ty.dflt t33)] ≤
 maxLen ∧
 ((IntKind.wrap IntKind.i64 (a_1 + (1 : Int)) =
 IntKind.wrap IntKind.i64 (a_1 + (1 : Int)) ∧
 True ∧
 True ∧
 True ∧
 True ∧
 x.fst.snd.fst = x.fst.snd.fst ∧
 (↑(List.length x.fst.snd.fst) : Int) =
 (↑(List.length x.fst.snd.fst) : Int)) ∧
 ((x.fst.fst = x.fst.fst ∧
 x.fst.snd.fst = x.fst.snd.fst ∧
 x.fst.snd.snd.fst = x.fst.snd.snd.fst) ∧
 (x.snd.fst.fst = x.snd.fst.fst ∧
 x.snd.fst.snd.fst = x.snd.fst.snd.fst) ∧
 (0 : Int) = (0 : Int) ∧
 Value.slice none (0 : Nat) (0 : Nat) =
 Value.slice none (0 : Nat) (0 : Nat) ∧
 (0 : Int) = (0 : Int)) ∧
 a ++ [List.getD x.fst.snd.fst (Int.toNat a_1) (Ty.dflt t33)] =
 a ++ [List.getD x.fst.snd.fst (Int.toNat a_1) (Ty.dflt t33)] ∧
 True) ∧
 Z
 (a ++ [List.getD x.fst.snd.fst (Int.toNat a_1) (Ty.dflt t33)],
 IntKind.wrap IntKind.i64 (a_1 + (1 : Int)), ()) ∧
 μ
 (a ++ [List.getD x.fst.snd.fst (Int.toNat a_1) (Ty.dflt t33)],
 IntKind.wrap IntKind.i64 (a_1 + (1 : Int)), ()) <
 μ (a, a_1, ())) ∧
 (decide
 ((List.getD x.fst.snd.fst (Int.toNat a_1) (Ty.dflt t33)).snd.fst <
 x.snd.fst.fst) =
 false →
 ((IntKind.wrap IntKind.i64 (a_1 + (1 : Int)) =
 IntKind.wrap IntKind.i64 (a_1 + (1 : Int)) ∧
 True ∧
 True ∧
 True ∧
 True ∧
 x.fst.snd.fst = x.fst.snd.fst ∧
 (↑(List.length x.fst.snd.fst) : Int) =
 (↑(List.length x.fst.snd.fst) : Int)) ∧
 ((x.fst.fst = x.fst.fst ∧
 x.fst.snd.fst = x.fst.snd.fst ∧
 x.fst.snd.snd.fst = x.fst.snd.snd.fst) ∧
 (x.snd.fst.fst = x.snd.fst.fst ∧
 x.snd.fst.snd.fst = x.snd.fst.snd.fst) ∧
 (0 : Int) = (0 : Int) ∧
 Value.slice none (0 : Nat) (0 : Nat) =
 Value.slice none (0 : Nat) (0 : Nat) ∧
 (0 : Int) = (0 : Int)) ∧
 a = a ∧ True) ∧
 Z (a, IntKind.wrap IntKind.i64 (a_1 + (1 : Int)), ()) ∧
 μ (a, IntKind.wrap IntKind.i64 (a_1 + (1 : Int)), ()) <
 μ (a, a_1, ())))) ∧
 (decide (a_1 < (↑(List.length x.fst.snd.fst) : Int)) = false →
 List.length a ≤ maxLen ∧ newW x.fst.fst a = removeW x.fst x.snd.fst))))
theorem vcEq20 : fnVC E20 Try.f20 (bodyOf Try.f20) cRefRemove = vc20 := by kernel_rfl
/- fn 21 -/
def hs21 : List (Nat × Nat × Hint) := [(0, 6, ⟨[.slot 5 t3, .slot 6 t3, .slot 24 t3], [1, 2, 4, 22, 23], [2, 4], []⟩),
  (0, 15, ⟨[.rowS 9 900000009 t33 33, .slot 61 t3], [1, 4, 5, 59, 60], [4], []⟩),
  (0, 20, ⟨[.slot 13 t4, .slot 81 t3], [1, 4, 5, 9, 12, 59, 60, 61, 79, 80], [4, 12], [97, 900000009]⟩)]
def nm21 : List Nat := [3000000027]
noncomputable def E21 : Env := env tab [(35, cRefNormal), (36, cRefMap), (10, cRefNew)] [] noGl hs21 nm21
def vc21 : Prop :=
 ∀ (x : (Int × List Span × Int × Unit) × List Chg × Unit),
 List.length x.fst.snd.fst ≤ (60 : Nat) ∧
 (∀ (m : Ty.den t33), m ∈ x.fst.snd.fst → okS x.fst.fst m = true) ∧
 (0 : Int) ≤ x.fst.fst ∧ x.fst.fst ≤ (1099511627776 : Int) ∧ List.length x.snd.fst ≤ (1000 : Nat) →
 List.length x.snd.fst ≤ maxLen ∧
 ((!normal x.snd.fst) = true → ((0 : Int), [], (4 : Int), ()) = shiftW x.fst x.snd.fst) ∧
 ((!normal x.snd.fst) = false →
 (((0 : Int) = (0 : Int) ∧
 (0 : Int) = (0 : Int) ∧
 x.fst.fst = x.fst.fst ∧
 x.snd.fst = x.snd.fst ∧
 True ∧
 True ∧
 x.snd.fst = x.snd.fst ∧ (↑(List.length x.snd.fst) : Int) = (↑(List.length x.snd.fst) : Int)) ∧
 (x.fst.fst = x.fst.fst ∧ x.fst.snd.fst = x.fst.snd.fst ∧ x.fst.snd.snd.fst = x.fst.snd.snd.fst) ∧
 (0 : Int) = (0 : Int) ∧
 Value.slice none (0 : Nat) (0 : Nat) = Value.slice none (0 : Nat) (0 : Nat) ∧ (0 : Int) = (0 : Int)) ∧
 ∃ (Z : Int × Int × Int × Unit → Prop),
 ∃ (μ : Int × Int × Int × Unit → Nat),
 Z (x.fst.fst, (0 : Int), (0 : Int), ()) ∧
 ∀ (a a_1 a_2 : Int),
 Z (a, a_1, a_2, ()) →
 (decide (a_2 < (↑(List.length x.snd.fst) : Int)) = true →
 ((0 : Int) ≤ a_2 ∧ a_2 < (↑(List.length x.snd.fst) : Int)) ∧
 ((IntKind.wrap IntKind.i64 (a_2 + (1 : Int)) = IntKind.wrap IntKind.i64 (a_2 + (1 : Int)) ∧
 (List.getD x.snd.fst (Int.toNat a_2) (Ty.dflt t75)).fst.snd.fst =
 (List.getD x.snd.fst (Int.toNat a_2) (Ty.dflt t75)).fst.snd.fst ∧
 IntKind.wrap IntKind.i64
 (IntKind.wrap IntKind.i64
 (a +
 IntKind.wrap IntKind.i64
 ((List.getD x.snd.fst (Int.toNat a_2) (Ty.dflt t75)).snd.fst.snd.fst -
 (List.getD x.snd.fst (Int.toNat a_2) (Ty.dflt t75)).snd.fst.fst)) -
 IntKind.wrap IntKind.i64
 ((List.getD x.snd.fst (Int.toNat a_2) (Ty.dflt t75)).fst.snd.fst -
 (List.getD x.snd.fst (Int.toNat a_2) (Ty.dflt t75)).fst.fst)) =
 IntKind.wrap IntKind.i64
 (IntKind.wrap IntKind.i64
 (a +
 IntKind.wrap IntKind.i64
 ((List.getD x.snd.fst (Int.toNat a_2) (Ty.dflt t75)).snd.fst.snd.fst -
 (List.getD x.snd.fst (Int.toNat a_2) (Ty.dflt t75)).snd.fst.fst)) -
 IntKind.wrap IntKind.i64
 ((List.getD x.snd.fst (Int.toNat a_2) (Ty.dflt t75)).fst.snd.fst -
 (List.getD x.snd.fst (Int.toNat a_2) (Ty.dflt t75)).fst.fst)) ∧
 x.snd.fst = x.snd.fst ∧
 True ∧
 True ∧
 x.snd.fst = x.snd.fst ∧
 (↑(List.length x.snd.fst) : Int) = (↑(List.length x.snd.fst) : Int)) ∧
 (x.fst.fst = x.fst.fst ∧
 x.fst.snd.fst = x.fst.snd.fst ∧ x.fst.snd.snd.fst = x.fst.snd.snd.fst) ∧
 (0 : Int) = (0 : Int) ∧
 Value.slice none (0 : Nat) (0 : Nat) = Value.slice none (0 : Nat) (0 : Nat) ∧
 (0 : Int) = (0 : Int)) ∧
 Z
 (IntKind.wrap IntKind.i64
 (IntKind.wrap IntKind.i64
 (a +
 IntKind.wrap IntKind.i64
 ((List.getD x.snd.fst (Int.toNat a_2) (Ty.dflt t75)).snd.fst.snd.fst -
 (List.getD x.snd.fst (Int.toNat a_2) (Ty.dflt t75)).snd.fst.fst)) -
 IntKind.wrap IntKind.i64
 ((List.getD x.snd.fst (Int.toNat a_2) (Ty.dflt t75)).fst.snd.fst -
 (List.getD x.snd.fst (Int.toNat a_2) (Ty.dflt t75)).fst.fst)),
 (List.getD x.snd.fst (Int.toNat a_2) (Ty.dflt t75)).fst.snd.fst,
 IntKind.wrap IntKind.i64 (a_2 + (1 : Int)), ()) ∧
 μ
 (IntKind.wrap IntKind.i64
 (IntKind.wrap IntKind.i64
 (a +
 IntKind.wrap IntKind.i64
 ((List.getD x.snd.fst (Int.toNat a_2) (Ty.dflt t75)).snd.fst.snd.fst -
 (List.getD x.snd.fst (Int.toNat a_2) (Ty.dflt t75)).snd.fst.fst)) -
 IntKind.wrap IntKind.i64
 ((List.getD x.snd.fst (Int.toNat a_2) (Ty.dflt t75)).fst.snd.fst -
 (List.getD x.snd.fst (Int.toNat a_2) (Ty.dflt t75)).fst.fst)),
 (List.getD x.snd.fst (Int.toNat a_2) (Ty.dflt t75)).fst.snd.fst,
 IntKind.wrap IntKind.i64 (a_2 + (1 : Int)), ()) <
 μ (a, a_1, a_2, ())) ∧
 (decide (a_2 < (↑(List.length x.snd.fst) : Int)) = false →
 (decide (a_1 > x.fst.fst) = true → ((0 : Int), [], (1 : Int), ()) = shiftW x.fst x.snd.fst) ∧
 (decide (a_1 > x.fst.fst) = false →
 (decide (a > (1099511627776 : Int)) = true →
 ((0 : Int), [], (1 : Int), ()) = shiftW x.fst x.snd.fst) ∧
 (decide (a > (1099511627776 : Int)) = false →
 (((0 : Int) = (0 : Int) ∧
 True ∧
 x.snd.fst = x.snd.fst ∧
 True ∧
 a = a ∧
 x.fst.snd.fst = x.fst.snd.fst ∧
 (↑(List.length x.fst.snd.fst) : Int) =
 (↑(List.length x.fst.snd.fst) : Int)) ∧
 ((0 : Int) = (0 : Int) ∧
 Value.slice none (0 : Nat) (0 : Nat) = Value.slice none (0 : Nat) (0 : Nat) ∧
 (0 : Int) = (0 : Int)) ∧
 True ∧ True) ∧
 ∃ (Z : List Span × Int × Unit → Prop),
 ∃ (μ : List Span × Int × Unit → Nat),
 Z ([], (0 : Int), ()) ∧
 ∀ (a_7 : List Span) (a_8 : Int),
 Z (a_7, a_8, ()) →
 (decide (a_8 < (↑(List.length x.fst.snd.fst) : Int)) = true →
 ((0 : Int) ≤ a_8 ∧ a_8 < (↑(List.length x.fst.snd.fst) : Int)) ∧
 (List.length x.snd.fst ≤ maxLen ∧
 normal x.snd.fst = true ∧
 (0 : Int) ≤
 (List.getD x.fst.snd.fst (Int.toNat a_8)
 (Ty.dflt t33)).fst ∧
 (List.getD x.fst.snd.fst (Int.toNat a_8)
 (Ty.dflt t33)).fst ≤
 (1099511627776 : Int)) ∧
 (List.length x.snd.fst ≤ maxLen ∧
 normal x.snd.fst = true ∧
 (0 : Int) ≤
 (List.getD x.fst.snd.fst (Int.toNat a_8)
 (Ty.dflt t33)).snd.fst ∧
 (List.getD x.fst.snd.fst (Int.toNat a_8)
 (Ty.dflt t33)).snd.fst ≤
 (1099511627776 : Int)) ∧
 (((0 : Int) = (0 : Int) ∧
 decide
 (refMap
 (List.getD x.fst.snd.fst (Int.toNat a_8)
 (Ty.dflt t33)).fst
 (1 : Int) x.snd.fst (0 : Int) ≥
 refMap
 (List.getD x.fst.snd.fst (Int.toNat a_8)
 (Ty.dflt t33)).snd.fst
 (0 : Int) x.snd.fst (0 : Int)) =
 decide
 (refMap
 (List.getD x.fst.snd.fst (Int.toNat a_8)
 (Ty.dflt t33)).fst
 (1 : Int) x.snd.fst (0 : Int) ≥
 refMap
 (List.getD x.fst.snd.fst (Int.toNat a_8)
 (Ty.dflt t33)).snd.fst
 (0 : Int) x.snd.fst (0 : Int)) ∧
 x.snd.fst = x.snd.fst ∧
 True ∧
 a = a ∧
 True ∧
 True ∧
 x.fst.snd.fst = x.fst.snd.fst ∧
 (↑(List.length x.fst.snd.fst) : Int) =
 (↑(List.length x.fst.snd.fst) : Int) ∧
 a_8 = a_8 ∧
 True ∧
 (↑(List.length a_7) : Int) =
 (↑(List.length a_7) : Int)) ∧
 (((0 : Int) = (0 : Int) ∧
 Value.slice none (0 : Nat) (0 : Nat) =
 Value.slice none (0 : Nat) (0 : Nat) ∧
 (0 : Int) = (0 : Int)) ∧
 refMap
 (List.getD x.fst.snd.fst (Int.toNat a_8)
 (Ty.dflt t33)).fst
 (1 : Int) x.snd.fst (0 : Int) =
 refMap
 (List.getD x.fst.snd.fst (Int.toNat a_8)
 (Ty.dflt t33)).fst
 (1 : Int) x.snd.fst (0 : Int) ∧
 refMap
 (List.getD x.fst.snd.fst (Int.toNat a_8)
 (Ty.dflt t33)).snd.fst
 (0 : Int) x.snd.fst (0 : Int) =
 refMap
 (List.getD x.fst.snd.fst (Int.toNat a_8)
 (Ty.dflt t33)).snd.fst
 (0 : Int) x.snd.fst (0 : Int)) ∧
 a_7 = a_7 ∧ True) ∧
 ∃ (Z_1 : Bool × Int × Unit → Prop),
 ∃ (μ_1 : Bool × Int × Unit → Nat),
 Z_1
 (decide
 (refMap
 (List.getD x.fst.snd.fst (Int.toNat a_8)
 (Ty.dflt t33)).fst
 (1 : Int) x.snd.fst (0 : Int) ≥
 refMap
 (List.getD x.fst.snd.fst (Int.toNat a_8)
 (Ty.dflt t33)).snd.fst
 (0 : Int) x.snd.fst (0 : Int)),
 (0 : Int), ()) ∧
 ∀ (a_11 : Bool) (a_12 : Int),
 Z_1 (a_11, a_12, ()) →
 (decide (a_12 < (↑(List.length a_7) : Int)) = true →
 ((0 : Int) ≤ a_12 ∧
 a_12 < (↑(List.length a_7) : Int)) ∧
 (a_11 = true →
 ((IntKind.wrap IntKind.i64
 (a_12 + (1 : Int)) =
 IntKind.wrap IntKind.i64
 (a_12 + (1 : Int)) ∧
 true = true ∧
 x.snd.fst = x.snd.fst ∧
 True ∧
 a = a ∧
 True ∧
 True ∧
 x.fst.snd.fst =
 x.fst.snd.fst ∧
 (↑(List.length
 x.fst.snd.fst) :
 Int) =
 (↑(List.length
 x.fst.snd.fst) :
 Int) ∧
 a_8 = a_8 ∧
 True ∧
 (↑(List.length
 a_7) :
 Int) =
 (↑(List.length
 a_7) :
 Int)) ∧
 (((0 : Int) = (0 : Int) ∧
 Value.slice none (0 : Nat)
 (0 : Nat) =
 Value.slice none (0 : Nat)
 (0 : Nat) ∧
 (0 : Int) = (0 : Int)) ∧
 refMap
 (List.getD x.fst.snd.fst
 (Int.toNat a_8)
 (Ty.dflt t33)).fst
 (1 : Int) x.snd.fst
 (0 : Int) =
 refMap
 (List.getD x.fst.snd.fst
 (Int.toNat a_8)
 (Ty.dflt t33)).fst
 (1 : Int) x.snd.fst
 (0 : Int) ∧
 refMap
 (List.getD x.fst.snd.fst
 (Int.toNat a_8)
 (Ty.dflt t33)).snd.fst
 (0 : Int) x.snd.fst
 (0 : Int) =
 refMap
 (List.getD x.fst.snd.fst
 (Int.toNat a_8)
 (Ty.dflt t33)).snd.fst
 (0 : Int) x.snd.fst
 (0 : Int)) ∧
 a_7 = a_7 ∧ True) ∧
 Z_1
 (true,
 IntKind.wrap IntKind.i64
 (a_12 + (1 : Int)),
 ()) ∧
 μ_1
 (true,
 IntKind.wrap IntKind.i64
 (a_12 + (1 : Int)),
 ()) <
 μ_1 (a_11, a_12, ())) ∧
 (a_11 = false →
 ((IntKind.wrap IntKind.i64
 (a_12 + (1 : Int)) =
 IntKind.wrap IntKind.i64
 (a_12 + (1 : Int)) ∧
 Ty.beq t33
 (refMap
 (List.getD x.fst.snd.fst
 (Int.toNat a_8)
 (Ty.dflt t33)).fst
 (1 : Int) x.snd.fst
 (0 : Int),
 refMap
 (List.getD x.fst.snd.fst
 (Int.toNat a_8)
 (Ty.dflt
 t33)).snd.fst
 (0 : Int) x.snd.fst
 (0 : Int),
 ())
 (List.getD a_7
 (Int.toNat a_12)
 (Ty.dflt t33)) =
 Ty.beq t33
 (refMap
 (List.getD x.fst.snd.fst
 (Int.toNat a_8)
 (Ty.dflt t33)).fst
 (1 : Int) x.snd.fst
 (0 : Int),
 refMap
 (List.getD x.fst.snd.fst
 (Int.toNat a_8)
 (Ty.dflt
 t33)).snd.fst
 (0 : Int) x.snd.fst
 (0 : Int),
 ())
 (List.getD a_7
 (Int.toNat a_12)
 (Ty.dflt t33)) ∧
 x.snd.fst = x.snd.fst ∧
 True ∧
 a = a ∧
 True ∧
 True ∧
 x.fst.snd.fst =
 x.fst.snd.fst ∧
 (↑(List.length
 x.fst.snd.fst) :
 Int) =
 (↑(List.length
 x.fst.snd.fst) :
 Int) ∧
 a_8 = a_8 ∧
 True ∧
 (↑(List.length
 a_7) :
 Int) =
 (↑(List.length
 a_7) :
 Int)) ∧
 (((0 : Int) = (0 : Int) ∧
 Value.slice none (0 : Nat)
 (0 : Nat) =
 Value.slice none (0 : Nat)
 (0 : Nat) ∧
 (0 : Int) = (0 : Int)) ∧
 refMap
 (List.getD x.fst.snd.fst
 (Int.toNat a_8)
 (Ty.dflt t33)).fst
 (1 : Int) x.snd.fst
 (0 : Int) =
 refMap
 (List.getD x.fst.snd.fst
 (Int.toNat a_8)
 (Ty.dflt t33)).fst
 (1 : Int) x.snd.fst
 (0 : Int) ∧
 refMap
 (List.getD x.fst.snd.fst
 (Int.toNat a_8)
 (Ty.dflt t33)).snd.fst
 (0 : Int) x.snd.fst
 (0 : Int) =
 refMap
 (List.getD x.fst.snd.fst
 (Int.toNat a_8)
 (Ty.dflt t33)).snd.fst
 (0 : Int) x.snd.fst
 (0 : Int)) ∧
 a_7 = a_7 ∧ True) ∧
 Z_1
 (Ty.beq t33
 (refMap
 (List.getD x.fst.snd.fst
 (Int.toNat a_8)
 (Ty.dflt t33)).fst
 (1 : Int) x.snd.fst
 (0 : Int),
 refMap
 (List.getD x.fst.snd.fst
 (Int.toNat a_8)
 (Ty.dflt t33)).snd.fst
 (0 : Int) x.snd.fst
 (0 : Int),
 ())
 (List.getD a_7 (Int.toNat a_12)
 (Ty.dflt t33)),
 IntKind.wrap IntKind.i64
 (a_12 + (1 : Int)),
 ()) ∧
 μ_1
 (Ty.beq t33
 (refMap
 (List.getD x.fst.snd.fst
 (Int.toNat a_8)
 (Ty.dflt t33)).fst
 (1 : Int) x.snd.fst
 (0 : Int),
 refMap
 (List.getD x.fst.snd.fst
 (Int.toNat a_8)
 (Ty.dflt
 t33)).snd.fst
 (0 : Int) x.snd.fst
 (0 : Int),
 ())
 (List.getD a_7
 (Int.toNat a_12)
 (Ty.dflt t33)),
 IntKind.wrap IntKind.i64
 (a_12 + (1 : Int)),
 ()) <
 μ_1 (a_11, a_12, ()))) ∧
 (decide (a_12 < (↑(List.length a_7) : Int)) =
 false →
 ((!a_11) = true →
 (List.length a_7 +
 List.length
 [(refMap
 (List.getD x.fst.snd.fst
 (Int.toNat a_8)
 (Ty.dflt t33)).fst
 (1 : Int) x.snd.fst
 (0 : Int),
 refMap
 (List.getD x.fst.snd.fst
 (Int.toNat a_8)
 (Ty.dflt t33)).snd.fst
 (0 : Int) x.snd.fst
 (0 : Int),
 ())]) *
 (16 : Nat) ≤
 (140737488355328 : Nat) ∧
 List.length a_7 +
 List.length
 [(refMap
 (List.getD x.fst.snd.fst
 (Int.toNat a_8)
 (Ty.dflt t33)).fst
 (1 : Int) x.snd.fst
 (0 : Int),
 refMap
 (List.getD x.fst.snd.fst
 (Int.toNat a_8)
 (Ty.dflt t33)).snd.fst
 (0 : Int) x.snd.fst
 (0 : Int),
 ())] ≤
 maxLen ∧
 ((IntKind.wrap IntKind.i64
 (a_8 + (1 : Int)) =
 IntKind.wrap IntKind.i64
 (a_8 + (1 : Int)) ∧
 True ∧
 x.snd.fst = x.snd.fst ∧
 True ∧
 a = a ∧
 x.fst.snd.fst =
 x.fst.snd.fst ∧
 (↑(List.length
 x.fst.snd.fst) :
 Int) =
 (↑(List.length
 x.fst.snd.fst) :
 Int)) ∧
 ((0 : Int) = (0 : Int) ∧
 Value.slice none (0 : Nat)
 (0 : Nat) =
 Value.slice none (0 : Nat)
 (0 : Nat) ∧
 (0 : Int) = (0 : Int)) ∧
 a_7 ++
 [(refMap
 (List.getD
 x.fst.snd.fst
 (Int.toNat a_8)
 (Ty.dflt t33)).fst
 (1 : Int) x.snd.fst
 (0 : Int),
 refMap
 (List.getD
 x.fst.snd.fst
 (Int.toNat a_8)
 (Ty.dflt
 t33)).snd.fst
 (0 : Int) x.snd.fst
 (0 : Int),
 ())] =
 a_7 ++
 [(refMap
 (List.getD
 x.fst.snd.fst
 (Int.toNat a_8)
 (Ty.dflt t33)).fst
 (1 : Int) x.snd.fst
 (0 : Int),
 refMap
 (List.getD
 x.fst.snd.fst
 (Int.toNat a_8)
 (Ty.dflt
 t33)).snd.fst
 (0 : Int) x.snd.fst
 (0 : Int),
 ())] ∧
 True) ∧
 Z
 (a_7 ++
 [(refMap
 (List.getD x.fst.snd.fst
 (Int.toNat a_8)
 (Ty.dflt t33)).fst
 (1 : Int) x.snd.fst
 (0 : Int),
 refMap
 (List.getD x.fst.snd.fst
 (Int.toNat a_8)
 (Ty.dflt
 t33)).snd.fst
 (0 : Int) x.snd.fst
 (0 : Int),
 ())],
 IntKind.wrap IntKind.i64
 (a_8 + (1 : Int)),
 ()) ∧
 μ
 (a_7 ++
 [(refMap
 (List.getD
 x.fst.snd.fst
 (Int.toNat a_8)
 (Ty.dflt t33)).fst
 (1 : Int) x.snd.fst
 (0 : Int),
 refMap
 (List.getD
 x.fst.snd.fst
 (Int.toNat a_8)
 (Ty.dflt
 t33)).snd.fst
 (0 : Int) x.snd.fst
 (0 : Int),
 ())],
 IntKind.wrap IntKind.i64
 (a_8 + (1 : Int)),
 ()) <
 μ (a_7, a_8, ())) ∧
 ((!a_11) = false →
 ((IntKind.wrap IntKind.i64
 (a_8 + (1 : Int)) =
 IntKind.wrap IntKind.i64
 (a_8 + (1 : Int)) ∧
 True ∧
 x.snd.fst = x.snd.fst ∧
 True ∧
 a = a ∧
 x.fst.snd.fst =
 x.fst.snd.fst ∧
 (↑(List.length
 x.fst.snd.fst) :
 Int) =
 (↑(List.length
 x.fst.snd.fst) :
 Int)) ∧
 ((0 : Int) = (0 : Int) ∧
 Value.slice none (0 : Nat)
 (0 : Nat) =
 Value.slice none (0 : Nat)
 (0 : Nat) ∧
 (0 : Int) = (0 : Int)) ∧
 a_7 = a_7 ∧ True) ∧
 Z
 (a_7,
 IntKind.wrap IntKind.i64
 (a_8 + (1 : Int)),
 ()) ∧
 μ
 (a_7,
 IntKind.wrap IntKind.i64
 (a_8 + (1 : Int)),
 ()) <
 μ (a_7, a_8, ())))) ∧
 (decide (a_8 < (↑(List.length x.fst.snd.fst) : Int)) = false →
 List.length a_7 ≤ maxLen ∧ newW a a_7 = shiftW x.fst x.snd.fst)))))
theorem vcEq21 : fnVC E21 Try.f21 (bodyOf Try.f21) cRefShift = vc21 := by kernel_rfl
/- fn 22 -/
def hs22 : List (Nat × Nat × Hint) := [(0, 3, ⟨[.rowS 3 900000003 t75 75, .slot 8 t3], [6, 7], [], []⟩)]
def nm22 : List Nat := [3000000027]
noncomputable def E22 : Env := env tab [] [] noGl hs22 nm22
def vc22 : Prop :=
 ∀ (x : List Chg × Unit),
 List.length x.fst ≤ (1000000000 : Nat) →
 (((0 : Int) = (0 : Int) ∧ True ∧ x.fst = x.fst ∧ (↑(List.length x.fst) : Int) = (↑(List.length x.fst) : Int)) ∧
 True ∧ True) ∧
 ∃ (Z : List Chg × Int × Unit → Prop),
 ∃ (μ : List Chg × Int × Unit → Nat),
 Z ([], (0 : Int), ()) ∧
 ∀ (a : List Chg) (a_1 : Int),
 Z (a, a_1, ()) →
 (decide (a_1 < (↑(List.length x.fst) : Int)) = true →
 ((0 : Int) ≤ a_1 ∧ a_1 < (↑(List.length x.fst) : Int)) ∧
 (List.length a + List.length [List.getD x.fst (Int.toNat a_1) (Ty.dflt t43)]) * (32 : Nat) ≤
 (140737488355328 : Nat) ∧
 List.length a + List.length [List.getD x.fst (Int.toNat a_1) (Ty.dflt t43)] ≤ maxLen ∧
 ((IntKind.wrap IntKind.i64 (a_1 + (1 : Int)) = IntKind.wrap IntKind.i64 (a_1 + (1 : Int)) ∧
 True ∧ x.fst = x.fst ∧ (↑(List.length x.fst) : Int) = (↑(List.length x.fst) : Int)) ∧
 a ++ [List.getD x.fst (Int.toNat a_1) (Ty.dflt t43)] =
 a ++ [List.getD x.fst (Int.toNat a_1) (Ty.dflt t43)] ∧
 True) ∧
 Z
 (a ++ [List.getD x.fst (Int.toNat a_1) (Ty.dflt t43)],
 IntKind.wrap IntKind.i64 (a_1 + (1 : Int)), ()) ∧
 μ
 (a ++ [List.getD x.fst (Int.toNat a_1) (Ty.dflt t43)],
 IntKind.wrap IntKind.i64 (a_1 + (1 : Int)), ()) <
 μ (a, a_1, ())) ∧
 (decide (a_1 < (↑(List.length x.fst) : Int)) = false → a = x.fst)
theorem vcEq22 : fnVC E22 Try.f22 (bodyOf Try.f22) cChanges = vc22 := by kernel_rfl
/- fn 23 -/
def hs23 : List (Nat × Nat × Hint) := []
def nm23 : List Nat := [3000000027]
noncomputable def E23 : Env := env tab [] [] noGl hs23 nm23
def vc23 : Prop :=
 ∀ (x : Option (Int × List Span × List Span × Unit) × Unit),
 True →
 (Option.isNone x.fst = true → (0 : Int) = lenF x.fst) ∧
 (Option.isNone x.fst = false →
 Option.isSome x.fst = true ∧ (List.getD (optL x.fst) (0 : Nat) (Ty.dflt t66)).fst = lenF x.fst)
theorem vcEq23 : fnVC E23 Try.f23 (bodyOf Try.f23) cLen = vc23 := by kernel_rfl
/- fn 24 -/
def hs24 : List (Nat × Nat × Hint) := [(0, 2, ⟨[.slot 8 t3], [0, 1, 7], [], []⟩)]
def nm24 : List Nat := [3000000027]
noncomputable def E24 : Env := env tab [] [] noGl hs24 nm24
def vc24 : Prop :=
 ∀ (x : List Span × List Span × Unit),
 List.length x.fst ≤ maxLen ∧ List.length x.snd.fst ≤ maxLen →
 ((0 : Int) = (0 : Int) ∧
 x.fst = x.fst ∧ x.snd.fst = x.snd.fst ∧ (↑(List.length x.fst) : Int) = (↑(List.length x.fst) : Int)) ∧
 ∃ (Z : Int × Unit → Prop),
 ∃ (μ : Int × Unit → Nat),
 Z ((0 : Int), ()) ∧
 ∀ (a : Int),
 Z (a, ()) →
 (decide (a < (↑(List.length x.fst) : Int)) = true →
 (decide (a ≥ (↑(List.length x.snd.fst) : Int)) = true → false = decide (x.fst = x.snd.fst)) ∧
 (decide (a ≥ (↑(List.length x.snd.fst) : Int)) = false →
 ((0 : Int) ≤ a ∧ a < (↑(List.length x.fst) : Int)) ∧
 ((0 : Int) ≤ a ∧ a < (↑(List.length x.snd.fst) : Int)) ∧
 ((!Ty.beq t33 (List.getD x.fst (Int.toNat a) (Ty.dflt t33))
 (List.getD x.snd.fst (Int.toNat a) (Ty.dflt t33))) =
 true →
 false = decide (x.fst = x.snd.fst)) ∧
 ((!Ty.beq t33 (List.getD x.fst (Int.toNat a) (Ty.dflt t33))
 (List.getD x.snd.fst (Int.toNat a) (Ty.dflt t33))) =
 false →
 (IntKind.wrap IntKind.i64 (a + (1 : Int)) = IntKind.wrap IntKind.i64 (a + (1 : Int)) ∧
 x.fst = x.fst ∧
 x.snd.fst = x.snd.fst ∧
 (↑(List.length x.fst) : Int) = (↑(List.length x.fst) : Int)) ∧
 Z (IntKind.wrap IntKind.i64 (a + (1 : Int)), ()) ∧
 μ (IntKind.wrap IntKind.i64 (a + (1 : Int)), ()) < μ (a, ())))) ∧
 (decide (a < (↑(List.length x.fst) : Int)) = false →
 ((↑(List.length x.fst) : Int) == (↑(List.length x.snd.fst) : Int)) = decide (x.fst = x.snd.fst))
theorem vcEq24 : fnVC E24 Try.f24 (bodyOf Try.f24) cSpans = vc24 := by kernel_rfl
/- fn 25 -/
def hs25 : List (Nat × Nat × Hint) := []
def nm25 : List Nat := [3000000027]
noncomputable def E25 : Env := env tab [] [] noGl hs25 nm25
def vc25 : Prop :=
 ∀ (x : Span × Int × Unit),
 True →
 (decide (x.fst.fst ≥ (0 : Int)) = true →
 (decide (x.fst.snd.fst ≥ x.fst.fst) = true → decide (x.fst.snd.fst ≤ x.snd.fst) = fitsF x.fst x.snd.fst) ∧
 (decide (x.fst.snd.fst ≥ x.fst.fst) = false → false = fitsF x.fst x.snd.fst)) ∧
 (decide (x.fst.fst ≥ (0 : Int)) = false → false = fitsF x.fst x.snd.fst)
theorem vcEq25 : fnVC E25 Try.f25 (bodyOf Try.f25) cFits = vc25 := by kernel_rfl
/- fn 26 -/
def hs26 : List (Nat × Nat × Hint) := []
def nm26 : List Nat := [1000000005, 3000000027]
noncomputable def E26 : Env := env tab [] [] noGl hs26 nm26
def vc26 : Prop :=
 ∀ (x : List Span × Unit),
 List.length x.fst ≤ (10000 : Nat) →
 ∀ (c : Bool),
 (c = true → List.length x.fst = (0 : Nat)) →
 (c = true → [] = x.fst) ∧
 (c = false →
 ((0 : Nat) + List.length x.fst) * (16 : Nat) ≤ (140737488355328 : Nat) ∧
 (0 : Nat) + List.length x.fst ≤ maxLen ∧ [] ++ x.fst = x.fst)
theorem vcEq26 : fnVC E26 Try.f26 (bodyOf Try.f26) cClone = vc26 := by kernel_rfl
/- fn 28 -/
def hs28 : List (Nat × Nat × Hint) := []
def nm28 : List Nat := [3000000027]
noncomputable def E28 : Env := env tab [(40, cCmp), (39, cOr)] [] noGl hs28 nm28
def vc28 : Prop :=
 ∀ (x : Chg),
 True →
 True ∧
 True ∧
 List.length [cmpI x.fst.fst x.snd.fst.fst, cmpI x.fst.snd.fst x.snd.fst.snd.fst] ≤ maxLen ∧
 firstNZ [cmpI x.fst.fst x.snd.fst.fst, cmpI x.fst.snd.fst x.snd.fst.snd.fst] = cmpS x.fst x.snd.fst
theorem vcEq28 : fnVC E28 Try.f28 (bodyOf Try.f28) cOrder = vc28 := by kernel_rfl
/- fn 29 -/
def hs29 : List (Nat × Nat × Hint) := [(0, 4, ⟨[.rowS 3 900000003 t33 33, .slot 4 t3], [], [], []⟩)]
def nm29 : List Nat := [3000000027]
noncomputable def E29 : Env := env tab [(41, cOverlap)] [] noGl hs29 nm29
def vc29 : Prop :=
 ∀ (x : (Int × List Span × Int × Unit) × Unit),
 RightL x.fst.snd.fst →
 ((0 : Nat) + List.length x.fst.snd.fst) * (16 : Nat) ≤ (140737488355328 : Nat) ∧
 (0 : Nat) + List.length x.fst.snd.fst ≤ maxLen ∧
 (((0 : Int) = (0 : Int) ∧ True) ∧ [] ++ x.fst.snd.fst = [] ++ x.fst.snd.fst ∧ True) ∧
 ∃ (Z : List Span × Int × Unit → Prop),
 ∃ (μ : List Span × Int × Unit → Nat),
 Z ([] ++ x.fst.snd.fst, (0 : Int), ()) ∧
 ∀ (a : List Span) (a_1 : Int),
 Z (a, a_1, ()) →
 (decide (IntKind.wrap IntKind.i64 (a_1 + (1 : Int)) < (↑(List.length a) : Int)) = true →
 ((0 : Int) ≤ a_1 ∧ a_1 < (↑(List.length a) : Int)) ∧
 ((0 : Int) ≤ IntKind.wrap IntKind.i64 (a_1 + (1 : Int)) ∧
 IntKind.wrap IntKind.i64 (a_1 + (1 : Int)) < (↑(List.length a) : Int)) ∧
 True ∧
 ((!(decide
 ((List.getD a (Int.toNat a_1) (Ty.dflt t33)).fst <
 (List.getD a (Int.toNat (IntKind.wrap IntKind.i64 (a_1 + (1 : Int))))
 (Ty.dflt t33)).snd.fst) &&
 decide
 ((List.getD a (Int.toNat (IntKind.wrap IntKind.i64 (a_1 + (1 : Int))))
 (Ty.dflt t33)).fst <
 (List.getD a (Int.toNat a_1) (Ty.dflt t33)).snd.fst))) =
 true →
 ((IntKind.wrap IntKind.i64 (a_1 + (1 : Int)) =
 IntKind.wrap IntKind.i64 (a_1 + (1 : Int)) ∧
 True) ∧
 a = a ∧ True) ∧
 Z (a, IntKind.wrap IntKind.i64 (a_1 + (1 : Int)), ()) ∧
 μ (a, IntKind.wrap IntKind.i64 (a_1 + (1 : Int)), ()) < μ (a, a_1, ())) ∧
 ((!(decide
 ((List.getD a (Int.toNat a_1) (Ty.dflt t33)).fst <
 (List.getD a (Int.toNat (IntKind.wrap IntKind.i64 (a_1 + (1 : Int))))
 (Ty.dflt t33)).snd.fst) &&
 decide
 ((List.getD a (Int.toNat (IntKind.wrap IntKind.i64 (a_1 + (1 : Int))))
 (Ty.dflt t33)).fst <
 (List.getD a (Int.toNat a_1) (Ty.dflt t33)).snd.fst))) =
 false →
 ((0 : Int) ≤ a_1 ∧ a_1 < (↑(List.length a) : Int)) ∧
 ((0 : Int) ≤ IntKind.wrap IntKind.i64 (a_1 + (1 : Int)) ∧
 IntKind.wrap IntKind.i64 (a_1 + (1 : Int)) < (↑(List.length a) : Int)) ∧
 (decide
 ((List.getD a (Int.toNat (IntKind.wrap IntKind.i64 (a_1 + (1 : Int))))
 (Ty.dflt t33)).snd.fst >
 (List.getD a (Int.toNat a_1) (Ty.dflt t33)).snd.fst) =
 true →
 ((0 : Int) ≤ IntKind.wrap IntKind.i64 (a_1 + (1 : Int)) ∧
 IntKind.wrap IntKind.i64 (a_1 + (1 : Int)) < (↑(List.length a) : Int)) ∧
 ((0 : Int) ≤ a_1 ∧ a_1 ≤ (↑(List.length a) : Int)) ∧
 ((0 : Nat) + List.length (List.take (Int.toNat a_1) a)) *
 (16 : Nat) ≤
 (140737488355328 : Nat) ∧
 (0 : Nat) + List.length (List.take (Int.toNat a_1) a) ≤ maxLen ∧
 ((0 : Int) ≤ a_1 ∧ a_1 < (↑(List.length a) : Int)) ∧
 (List.length ([] ++ List.take (Int.toNat a_1) a) +
 List.length
 [((List.getD a (Int.toNat a_1) (Ty.dflt t33)).fst,
 (List.getD a
 (Int.toNat
 (IntKind.wrap IntKind.i64 (a_1 + (1 : Int))))
 (Ty.dflt t33)).snd)]) *
 (16 : Nat) ≤
 (140737488355328 : Nat) ∧
 List.length ([] ++ List.take (Int.toNat a_1) a) +
 List.length
 [((List.getD a (Int.toNat a_1) (Ty.dflt t33)).fst,
 (List.getD a
 (Int.toNat
 (IntKind.wrap IntKind.i64 (a_1 + (1 : Int))))
 (Ty.dflt t33)).snd)] ≤
 maxLen ∧
 ((0 : Int) ≤ IntKind.wrap IntKind.i64 (a_1 + (2 : Int)) ∧
 IntKind.wrap IntKind.i64 (a_1 + (2 : Int)) ≤
 (↑(List.length a) : Int)) ∧
 (List.length
 ([] ++ List.take (Int.toNat a_1) a ++
 [((List.getD a (Int.toNat a_1) (Ty.dflt t33)).fst,
 (List.getD a
 (Int.toNat
 (IntKind.wrap IntKind.i64
 (a_1 + (1 : Int))))
 (Ty.dflt t33)).snd)]) +
 List.length
 (List.drop
 (Int.toNat
 (IntKind.wrap IntKind.i64 (a_1 + (2 : Int))))
 a)) *
 (16 : Nat) ≤
 (140737488355328 : Nat) ∧
 List.length
 ([] ++ List.take (Int.toNat a_1) a ++
 [((List.getD a (Int.toNat a_1) (Ty.dflt t33)).fst,
 (List.getD a
 (Int.toNat
 (IntKind.wrap IntKind.i64
 (a_1 + (1 : Int))))
 (Ty.dflt t33)).snd)]) +
 List.length
 (List.drop
 (Int.toNat
 (IntKind.wrap IntKind.i64 (a_1 + (2 : Int))))
 a) ≤
 maxLen ∧
 ((a_1 = a_1 ∧ True) ∧
 [] ++ List.take (Int.toNat a_1) a ++
 [((List.getD a (Int.toNat a_1)
 (Ty.dflt t33)).fst,
 (List.getD a
 (Int.toNat
 (IntKind.wrap IntKind.i64
 (a_1 + (1 : Int))))
 (Ty.dflt t33)).snd)] ++
 List.drop
 (Int.toNat
 (IntKind.wrap IntKind.i64
 (a_1 + (2 : Int))))
 a =
 [] ++ List.take (Int.toNat a_1) a ++
 [((List.getD a (Int.toNat a_1)
 (Ty.dflt t33)).fst,
 (List.getD a
 (Int.toNat
 (IntKind.wrap IntKind.i64
 (a_1 + (1 : Int))))
 (Ty.dflt t33)).snd)] ++
 List.drop
 (Int.toNat
 (IntKind.wrap IntKind.i64
 (a_1 + (2 : Int))))
 a ∧
 True) ∧
 Z
 ([] ++ List.take (Int.toNat a_1) a ++
 [((List.getD a (Int.toNat a_1)
 (Ty.dflt t33)).fst,
 (List.getD a
 (Int.toNat
 (IntKind.wrap IntKind.i64
 (a_1 + (1 : Int))))
 (Ty.dflt t33)).snd)] ++
 List.drop
 (Int.toNat
 (IntKind.wrap IntKind.i64
 (a_1 + (2 : Int))))
 a,
 a_1, ()) ∧
 μ
 ([] ++ List.take (Int.toNat a_1) a ++
 [((List.getD a (Int.toNat a_1)
 (Ty.dflt t33)).fst,
 (List.getD a
 (Int.toNat
 (IntKind.wrap IntKind.i64
 (a_1 + (1 : Int))))
 (Ty.dflt t33)).snd)] ++
 List.drop
 (Int.toNat
 (IntKind.wrap IntKind.i64
 (a_1 + (2 : Int))))
 a,
 a_1, ()) <
 μ (a, a_1, ())) ∧
 (decide
 ((List.getD a (Int.toNat (IntKind.wrap IntKind.i64 (a_1 + (1 : Int))))
 (Ty.dflt t33)).snd.fst >
 (List.getD a (Int.toNat a_1) (Ty.dflt t33)).snd.fst) =
 false →
 ((0 : Int) ≤ a_1 ∧ a_1 ≤ (↑(List.length a) : Int)) ∧
 ((0 : Nat) + List.length (List.take (Int.toNat a_1) a)) * (16 : Nat) ≤
 (140737488355328 : Nat) ∧
 (0 : Nat) + List.length (List.take (Int.toNat a_1) a) ≤ maxLen ∧
 ((0 : Int) ≤ a_1 ∧ a_1 < (↑(List.length a) : Int)) ∧
 (List.length ([] ++ List.take (Int.toNat a_1) a) +
 List.length [List.getD a (Int.toNat a_1) (Ty.dflt t33)]) *
 (16 : Nat) ≤
 (140737488355328 : Nat) ∧
 List.length ([] ++ List.take (Int.toNat a_1) a) +
 List.length [List.getD a (Int.toNat a_1) (Ty.dflt t33)] ≤
 maxLen ∧
 ((0 : Int) ≤ IntKind.wrap IntKind.i64 (a_1 + (2 : Int)) ∧
 IntKind.wrap IntKind.i64 (a_1 + (2 : Int)) ≤
 (↑(List.length a) : Int)) ∧
 (List.length
 ([] ++ List.take (Int.toNat a_1) a ++
 [List.getD a (Int.toNat a_1) (Ty.dflt t33)]) +
 List.length
 (List.drop
 (Int.toNat
 (IntKind.wrap IntKind.i64 (a_1 + (2 : Int))))
 a)) *
 (16 : Nat) ≤
 (140737488355328 : Nat) ∧
 List.length
 ([] ++ List.take (Int.toNat a_1) a ++
 [List.getD a (Int.toNat a_1) (Ty.dflt t33)]) +
 List.length
 (List.drop
 (Int.toNat
 (IntKind.wrap IntKind.i64 (a_1 + (2 : Int))))
 a) ≤
 maxLen ∧
 ((a_1 = a_1 ∧ True) ∧
 [] ++ List.take (Int.toNat a_1) a ++
 [List.getD a (Int.toNat a_1) (Ty.dflt t33)] ++
 List.drop
 (Int.toNat
 (IntKind.wrap IntKind.i64 (a_1 + (2 : Int))))
 a =
 [] ++ List.take (Int.toNat a_1) a ++
 [List.getD a (Int.toNat a_1) (Ty.dflt t33)] ++
 List.drop
 (Int.toNat
 (IntKind.wrap IntKind.i64 (a_1 + (2 : Int))))
 a ∧
 True) ∧
 Z
 ([] ++ List.take (Int.toNat a_1) a ++
 [List.getD a (Int.toNat a_1) (Ty.dflt t33)] ++
 List.drop
 (Int.toNat
 (IntKind.wrap IntKind.i64 (a_1 + (2 : Int))))
 a,
 a_1, ()) ∧
 μ
 ([] ++ List.take (Int.toNat a_1) a ++
 [List.getD a (Int.toNat a_1) (Ty.dflt t33)] ++
 List.drop
 (Int.toNat
 (IntKind.wrap IntKind.i64
 (a_1 + (2 : Int))))
 a,
 a_1, ()) <
 μ (a, a_1, ())))) ∧
 (decide (IntKind.wrap IntKind.i64 (a_1 + (1 : Int)) < (↑(List.length a) : Int)) = false →
 a = hideL x.fst.snd.fst)
theorem vcEq29 : fnVC E29 Try.f29 (bodyOf Try.f29) cRefHidden = vc29 := by kernel_rfl
/- fn 30 -/
def hs30 : List (Nat × Nat × Hint) := [(0, 3, ⟨[.slot 9 t3, .cell 3 0 t3, .cell 3 1 t3, .cell 3 2 t3, .cell 3 3 t3], [3, 7, 8], [3], []⟩)]
def nm30 : List Nat := [3000000027]
noncomputable def E30 : Env := env tab [(42, cWithin), (43, cSize)] [] noGl hs30 nm30
def vc30 : Prop :=
 ∀ (x : List Chg × Unit),
 List.length x.fst ≤ maxLen →
 (((0 : Int) = (0 : Int) ∧ True ∧ x.fst = x.fst ∧ (↑(List.length x.fst) : Int) = (↑(List.length x.fst) : Int)) ∧
 (0 : Int) = (0 : Int) ∧ (0 : Int) = (0 : Int) ∧ (0 : Int) = (0 : Int) ∧ (0 : Int) = (0 : Int)) ∧
 ∃ (Z : Int × Int × Int × Int × Int × Unit → Prop),
 ∃ (μ : Int × Int × Int × Int × Int × Unit → Nat),
 Z ((0 : Int), (0 : Int), (0 : Int), (0 : Int), (0 : Int), ()) ∧
 ∀ (a a_1 a_2 a_3 a_4 : Int),
 Z (a, a_1, a_2, a_3, a_4, ()) →
 (decide (a < (↑(List.length x.fst) : Int)) = true →
 ((0 : Int) ≤ a ∧ a < (↑(List.length x.fst) : Int)) ∧
 True ∧
 ((!within (List.getD x.fst (Int.toNat a) (Ty.dflt t43)).fst) = true → false = normal x.fst) ∧
 ((!within (List.getD x.fst (Int.toNat a) (Ty.dflt t43)).fst) = false →
 True ∧
 ((!within (List.getD x.fst (Int.toNat a) (Ty.dflt t43)).snd.fst) = true →
 false = normal x.fst) ∧
 ((!within (List.getD x.fst (Int.toNat a) (Ty.dflt t43)).snd.fst) = false →
 True ∧
 True ∧
 ((IntKind.wrap IntKind.i64
 (size (List.getD x.fst (Int.toNat a) (Ty.dflt t43)).fst +
 size (List.getD x.fst (Int.toNat a) (Ty.dflt t43)).snd.fst) ==
 (0 : Int)) =
 true →
 false = normal x.fst) ∧
 ((IntKind.wrap IntKind.i64
 (size (List.getD x.fst (Int.toNat a) (Ty.dflt t43)).fst +
 size (List.getD x.fst (Int.toNat a) (Ty.dflt t43)).snd.fst) ==
 (0 : Int)) =
 false →
 ((IntKind.wrap IntKind.i64
 ((List.getD x.fst (Int.toNat a) (Ty.dflt t43)).fst.fst - a_2) !=
 IntKind.wrap IntKind.i64
 ((List.getD x.fst (Int.toNat a) (Ty.dflt t43)).snd.fst.fst - a_4)) =
 true →
 false = normal x.fst) ∧
 ((IntKind.wrap IntKind.i64
 ((List.getD x.fst (Int.toNat a) (Ty.dflt t43)).fst.fst - a_2) !=
 IntKind.wrap IntKind.i64
 ((List.getD x.fst (Int.toNat a) (Ty.dflt t43)).snd.fst.fst - a_4)) =
 false →
 (decide
 (IntKind.wrap IntKind.i64
 ((List.getD x.fst (Int.toNat a) (Ty.dflt t43)).fst.fst -
 a_2) <
 (0 : Int)) =
 true →
 false = normal x.fst) ∧
 (decide
 (IntKind.wrap IntKind.i64
 ((List.getD x.fst (Int.toNat a) (Ty.dflt t43)).fst.fst -
 a_2) <
 (0 : Int)) =
 false →
 ((IntKind.wrap IntKind.i64
 ((List.getD x.fst (Int.toNat a) (Ty.dflt t43)).fst.fst -
 a_2) ==
 (0 : Int)) =
 true →
 (decide (a > (0 : Int)) = true → false = normal x.fst) ∧
 (decide (a > (0 : Int)) = false →
 ((IntKind.wrap IntKind.i64 (a + (1 : Int)) =
 IntKind.wrap IntKind.i64 (a + (1 : Int)) ∧
 True ∧
 x.fst = x.fst ∧
 (↑(List.length x.fst) : Int) =
 (↑(List.length x.fst) : Int)) ∧
 (List.getD x.fst (Int.toNat a) (Ty.dflt t43)).fst.fst =
 (List.getD x.fst (Int.toNat a)
 (Ty.dflt t43)).fst.fst ∧
 (List.getD x.fst (Int.toNat a)
 (Ty.dflt t43)).fst.snd.fst =
 (List.getD x.fst (Int.toNat a)
 (Ty.dflt t43)).fst.snd.fst ∧
 (List.getD x.fst (Int.toNat a)
 (Ty.dflt t43)).snd.fst.fst =
 (List.getD x.fst (Int.toNat a)
 (Ty.dflt t43)).snd.fst.fst ∧
 (List.getD x.fst (Int.toNat a)
 (Ty.dflt t43)).snd.fst.snd.fst =
 (List.getD x.fst (Int.toNat a)
 (Ty.dflt t43)).snd.fst.snd.fst) ∧
 Z
 (IntKind.wrap IntKind.i64 (a + (1 : Int)),
 (List.getD x.fst (Int.toNat a) (Ty.dflt t43)).fst.fst,
 (List.getD x.fst (Int.toNat a)
 (Ty.dflt t43)).fst.snd.fst,
 (List.getD x.fst (Int.toNat a)
 (Ty.dflt t43)).snd.fst) ∧
 μ
 (IntKind.wrap IntKind.i64 (a + (1 : Int)),
 (List.getD x.fst (Int.toNat a)
 (Ty.dflt t43)).fst.fst,
 (List.getD x.fst (Int.toNat a)
 (Ty.dflt t43)).fst.snd.fst,
 (List.getD x.fst (Int.toNat a)
 (Ty.dflt t43)).snd.fst) <
 μ (a, a_1, a_2, a_3, a_4, ()))) ∧
 ((IntKind.wrap IntKind.i64
 ((List.getD x.fst (Int.toNat a) (Ty.dflt t43)).fst.fst -
 a_2) ==
 (0 : Int)) =
 false →
 ((IntKind.wrap IntKind.i64 (a + (1 : Int)) =
 IntKind.wrap IntKind.i64 (a + (1 : Int)) ∧
 True ∧
 x.fst = x.fst ∧
 (↑(List.length x.fst) : Int) =
 (↑(List.length x.fst) : Int)) ∧
 (List.getD x.fst (Int.toNat a) (Ty.dflt t43)).fst.fst =
 (List.getD x.fst (Int.toNat a) (Ty.dflt t43)).fst.fst ∧
 (List.getD x.fst (Int.toNat a) (Ty.dflt t43)).fst.snd.fst =
 (List.getD x.fst (Int.toNat a)
 (Ty.dflt t43)).fst.snd.fst ∧
 (List.getD x.fst (Int.toNat a)
 (Ty.dflt t43)).snd.fst.fst =
 (List.getD x.fst (Int.toNat a)
 (Ty.dflt t43)).snd.fst.fst ∧
 (List.getD x.fst (Int.toNat a)
 (Ty.dflt t43)).snd.fst.snd.fst =
 (List.getD x.fst (Int.toNat a)
 (Ty.dflt t43)).snd.fst.snd.fst) ∧
 Z
 (IntKind.wrap IntKind.i64 (a + (1 : Int)),
 (List.getD x.fst (Int.toNat a) (Ty.dflt t43)).fst.fst,
 (List.getD x.fst (Int.toNat a) (Ty.dflt t43)).fst.snd.fst,
 (List.getD x.fst (Int.toNat a) (Ty.dflt t43)).snd.fst) ∧
 μ
 (IntKind.wrap IntKind.i64 (a + (1 : Int)),
 (List.getD x.fst (Int.toNat a) (Ty.dflt t43)).fst.fst,
 (List.getD x.fst (Int.toNat a)
 (Ty.dflt t43)).fst.snd.fst,
 (List.getD x.fst (Int.toNat a) (Ty.dflt t43)).snd.fst) <
 μ (a, a_1, a_2, a_3, a_4, ())))))))) ∧
 (decide (a < (↑(List.length x.fst) : Int)) = false → true = normal x.fst)
theorem vcEq30 : fnVC E30 Try.f30 (bodyOf Try.f30) cNormal = vc30 := by kernel_rfl
/- fn 31 -/
def hs31 : List (Nat × Nat × Hint) := [(0, 3, ⟨[.slot 3 t3, .slot 8 t3], [6, 7], [], []⟩)]
def nm31 : List Nat := [3000000027]
noncomputable def E31 : Env := env tab [(43, cSize)] [] noGl hs31 nm31
def vc31 : Prop :=
 ∀ (x : List Chg × Unit),
 List.length x.fst ≤ maxLen →
 ((0 : Int) = (0 : Int) ∧
 (0 : Int) = (0 : Int) ∧ x.fst = x.fst ∧ (↑(List.length x.fst) : Int) = (↑(List.length x.fst) : Int)) ∧
 ∃ (Z : Int × Int × Unit → Prop),
 ∃ (μ : Int × Int × Unit → Nat),
 Z ((0 : Int), (0 : Int), ()) ∧
 ∀ (a a_1 : Int),
 Z (a, a_1, ()) →
 (decide (a_1 < (↑(List.length x.fst) : Int)) = true →
 ((0 : Int) ≤ a_1 ∧ a_1 < (↑(List.length x.fst) : Int)) ∧
 True ∧
 True ∧
 (IntKind.wrap IntKind.i64 (a_1 + (1 : Int)) = IntKind.wrap IntKind.i64 (a_1 + (1 : Int)) ∧
 IntKind.wrap IntKind.i64
 (a +
 IntKind.wrap IntKind.i64
 (size (List.getD x.fst (Int.toNat a_1) (Ty.dflt t43)).snd.fst -
 size (List.getD x.fst (Int.toNat a_1) (Ty.dflt t43)).fst)) =
 IntKind.wrap IntKind.i64
 (a +
 IntKind.wrap IntKind.i64
 (size (List.getD x.fst (Int.toNat a_1) (Ty.dflt t43)).snd.fst -
 size (List.getD x.fst (Int.toNat a_1) (Ty.dflt t43)).fst)) ∧
 x.fst = x.fst ∧ (↑(List.length x.fst) : Int) = (↑(List.length x.fst) : Int)) ∧
 Z
 (IntKind.wrap IntKind.i64
 (a +
 IntKind.wrap IntKind.i64
 (size (List.getD x.fst (Int.toNat a_1) (Ty.dflt t43)).snd.fst -
 size (List.getD x.fst (Int.toNat a_1) (Ty.dflt t43)).fst)),
 IntKind.wrap IntKind.i64 (a_1 + (1 : Int)), ()) ∧
 μ
 (IntKind.wrap IntKind.i64
 (a +
 IntKind.wrap IntKind.i64
 (size (List.getD x.fst (Int.toNat a_1) (Ty.dflt t43)).snd.fst -
 size (List.getD x.fst (Int.toNat a_1) (Ty.dflt t43)).fst)),
 IntKind.wrap IntKind.i64 (a_1 + (1 : Int)), ()) <
 μ (a, a_1, ())) ∧
 (decide (a_1 < (↑(List.length x.fst) : Int)) = false → a = delta x.fst)
theorem vcEq31 : fnVC E31 Try.f31 (bodyOf Try.f31) cDelta = vc31 := by kernel_rfl
/- fn 32 -/
def hs32 : List (Nat × Nat × Hint) := [(0, 7, ⟨[.slot 8 t3, .slot 32 t3], [1, 2, 30, 31], [], []⟩)]
def nm32 : List Nat := [3000000027]
noncomputable def E32 : Env := env tab [(30, cNormal)] [] noGl hs32 nm32
def vc32 : Prop :=
 ∀ (x : List Chg × Int × Int × Unit),
 List.length x.fst ≤ maxLen →
 List.length x.fst ≤ maxLen ∧
 ((!normal x.fst) = true → ((0 : Int), (4 : Int), ()) = mapP x.fst x.snd.fst x.snd.snd.fst) ∧
 ((!normal x.fst) = false →
 (decide (x.snd.fst < (0 : Int)) = true → ((0 : Int), (1 : Int), ()) = mapP x.fst x.snd.fst x.snd.snd.fst) ∧
 (decide (x.snd.fst < (0 : Int)) = false →
 (decide (x.snd.fst > (1099511627776 : Int)) = true →
 ((0 : Int), (1 : Int), ()) = mapP x.fst x.snd.fst x.snd.snd.fst) ∧
 (decide (x.snd.fst > (1099511627776 : Int)) = false →
 ((x.snd.snd.fst != (0 : Int)) = true →
 ((x.snd.snd.fst != (1 : Int)) = true →
 ((0 : Int), (1 : Int), ()) = mapP x.fst x.snd.fst x.snd.snd.fst) ∧
 ((x.snd.snd.fst != (1 : Int)) = false →
 ((0 : Int) = (0 : Int) ∧
 (0 : Int) = (0 : Int) ∧
 x.snd.fst = x.snd.fst ∧
 x.snd.snd.fst = x.snd.snd.fst ∧
 x.fst = x.fst ∧ (↑(List.length x.fst) : Int) = (↑(List.length x.fst) : Int)) ∧
 ∃ (Z : Int × Int × Unit → Prop),
 ∃ (μ : Int × Int × Unit → Nat),
 Z ((0 : Int), (0 : Int), ()) ∧
 ∀ (a a_1 : Int),
 Z (a, a_1, ()) →
 (decide (a_1 < (↑(List.length x.fst) : Int)) = true →
 ((0 : Int) ≤ a_1 ∧ a_1 < (↑(List.length x.fst) : Int)) ∧
 (decide
 (x.snd.fst <
 (List.getD x.fst (Int.toNat a_1) (Ty.dflt t43)).fst.fst) =
 true →
 (IntKind.wrap IntKind.i64 (x.snd.fst + a), (0 : Int), ()) =
 mapP x.fst x.snd.fst x.snd.snd.fst) ∧
 (decide
 (x.snd.fst <
 (List.getD x.fst (Int.toNat a_1) (Ty.dflt t43)).fst.fst) =
 false →
 (decide
 (x.snd.fst ≤
 (List.getD x.fst (Int.toNat a_1) (Ty.dflt t43)).fst.snd.fst) =
 true →
 ((x.snd.snd.fst == (0 : Int)) = true →
 ((List.getD x.fst (Int.toNat a_1) (Ty.dflt t43)).snd.fst.fst,
 (0 : Int), ()) =
 mapP x.fst x.snd.fst x.snd.snd.fst) ∧
 ((x.snd.snd.fst == (0 : Int)) = false →
 (decide
 (x.snd.fst ≤
 (List.getD x.fst (Int.toNat a_1)
 (Ty.dflt t43)).fst.snd.fst) =
 true →
 ((List.getD x.fst (Int.toNat a_1)
 (Ty.dflt t43)).snd.fst.snd.fst,
 (0 : Int), ()) =
 mapP x.fst x.snd.fst x.snd.snd.fst) ∧
 (decide
 (x.snd.fst ≤
 (List.getD x.fst (Int.toNat a_1)
 (Ty.dflt t43)).fst.snd.fst) =
 false →
 (IntKind.wrap IntKind.i64 (a_1 + (1 : Int)) =
 IntKind.wrap IntKind.i64 (a_1 + (1 : Int)) ∧
 IntKind.wrap IntKind.i64
 ((List.getD x.fst (Int.toNat a_1)
 (Ty.dflt t43)).snd.fst.snd.fst -
 (List.getD x.fst (Int.toNat a_1)
 (Ty.dflt t43)).fst.snd.fst) =
 IntKind.wrap IntKind.i64
 ((List.getD x.fst (Int.toNat a_1)
 (Ty.dflt t43)).snd.fst.snd.fst -
 (List.getD x.fst (Int.toNat a_1)
 (Ty.dflt t43)).fst.snd.fst) ∧
 x.snd.fst = x.snd.fst ∧
 x.snd.snd.fst = x.snd.snd.fst ∧
 x.fst = x.fst ∧
 (↑(List.length x.fst) : Int) =
 (↑(List.length x.fst) : Int)) ∧
 Z
 (IntKind.wrap IntKind.i64
 ((List.getD x.fst (Int.toNat a_1)
 (Ty.dflt t43)).snd.fst.snd.fst -
 (List.getD x.fst (Int.toNat a_1)
 (Ty.dflt t43)).fst.snd.fst),
 IntKind.wrap IntKind.i64 (a_1 + (1 : Int)), ()) ∧
 μ
 (IntKind.wrap IntKind.i64
 ((List.getD x.fst (Int.toNat a_1)
 (Ty.dflt t43)).snd.fst.snd.fst -
 (List.getD x.fst (Int.toNat a_1)
 (Ty.dflt t43)).fst.snd.fst),
 IntKind.wrap IntKind.i64 (a_1 + (1 : Int)), ()) <
 μ (a, a_1, ())))) ∧
 (decide
 (x.snd.fst ≤
 (List.getD x.fst (Int.toNat a_1) (Ty.dflt t43)).fst.snd.fst) =
 false →
 (decide
 (x.snd.fst ≤
 (List.getD x.fst (Int.toNat a_1)
 (Ty.dflt t43)).fst.snd.fst) =
 true →
 ((List.getD x.fst (Int.toNat a_1)
 (Ty.dflt t43)).snd.fst.snd.fst,
 (0 : Int), ()) =
 mapP x.fst x.snd.fst x.snd.snd.fst) ∧
 (decide
 (x.snd.fst ≤
 (List.getD x.fst (Int.toNat a_1)
 (Ty.dflt t43)).fst.snd.fst) =
 false →
 (IntKind.wrap IntKind.i64 (a_1 + (1 : Int)) =
 IntKind.wrap IntKind.i64 (a_1 + (1 : Int)) ∧
 IntKind.wrap IntKind.i64
 ((List.getD x.fst (Int.toNat a_1)
 (Ty.dflt t43)).snd.fst.snd.fst -
 (List.getD x.fst (Int.toNat a_1)
 (Ty.dflt t43)).fst.snd.fst) =
 IntKind.wrap IntKind.i64
 ((List.getD x.fst (Int.toNat a_1)
 (Ty.dflt t43)).snd.fst.snd.fst -
 (List.getD x.fst (Int.toNat a_1)
 (Ty.dflt t43)).fst.snd.fst) ∧
 x.snd.fst = x.snd.fst ∧
 x.snd.snd.fst = x.snd.snd.fst ∧
 x.fst = x.fst ∧
 (↑(List.length x.fst) : Int) =
 (↑(List.length x.fst) : Int)) ∧
 Z
 (IntKind.wrap IntKind.i64
 ((List.getD x.fst (Int.toNat a_1)
 (Ty.dflt t43)).snd.fst.snd.fst -
 (List.getD x.fst (Int.toNat a_1)
 (Ty.dflt t43)).fst.snd.fst),
 IntKind.wrap IntKind.i64 (a_1 + (1 : Int)), ()) ∧
 μ
 (IntKind.wrap IntKind.i64
 ((List.getD x.fst (Int.toNat a_1)
 (Ty.dflt t43)).snd.fst.snd.fst -
 (List.getD x.fst (Int.toNat a_1)
 (Ty.dflt t43)).fst.snd.fst),
 IntKind.wrap IntKind.i64 (a_1 + (1 : Int)), ()) <
 μ (a, a_1, ()))))) ∧
 (decide (a_1 < (↑(List.length x.fst) : Int)) = false →
 (IntKind.wrap IntKind.i64 (x.snd.fst + a), (0 : Int), ()) =
 mapP x.fst x.snd.fst x.snd.snd.fst))) ∧
 ((x.snd.snd.fst != (0 : Int)) = false →
 ((0 : Int) = (0 : Int) ∧
 (0 : Int) = (0 : Int) ∧
 x.snd.fst = x.snd.fst ∧
 x.snd.snd.fst = x.snd.snd.fst ∧
 x.fst = x.fst ∧ (↑(List.length x.fst) : Int) = (↑(List.length x.fst) : Int)) ∧
 ∃ (Z : Int × Int × Unit → Prop),
 ∃ (μ : Int × Int × Unit → Nat),
 Z ((0 : Int), (0 : Int), ()) ∧
 ∀ (a a_1 : Int),
 Z (a, a_1, ()) →
 (decide (a_1 < (↑(List.length x.fst) : Int)) = true →
 ((0 : Int) ≤ a_1 ∧ a_1 < (↑(List.length x.fst) : Int)) ∧
 (decide (x.snd.fst < (List.getD x.fst (Int.toNat a_1) (Ty.dflt t43)).fst.fst) =
 true →
 (IntKind.wrap IntKind.i64 (x.snd.fst + a), (0 : Int), ()) =
 mapP x.fst x.snd.fst x.snd.snd.fst) ∧
 (decide
 (x.snd.fst < (List.getD x.fst (Int.toNat a_1) (Ty.dflt t43)).fst.fst) =
 false →
 (decide
 (x.snd.fst ≤
 (List.getD x.fst (Int.toNat a_1) (Ty.dflt t43)).fst.snd.fst) =
 true →
 ((x.snd.snd.fst == (0 : Int)) = true →
 ((List.getD x.fst (Int.toNat a_1) (Ty.dflt t43)).snd.fst.fst,
 (0 : Int), ()) =
 mapP x.fst x.snd.fst x.snd.snd.fst) ∧
 ((x.snd.snd.fst == (0 : Int)) = false →
 (decide
 (x.snd.fst ≤
 (List.getD x.fst (Int.toNat a_1)
 (Ty.dflt t43)).fst.snd.fst) =
 true →
 ((List.getD x.fst (Int.toNat a_1)
 (Ty.dflt t43)).snd.fst.snd.fst,
 (0 : Int), ()) =
 mapP x.fst x.snd.fst x.snd.snd.fst) ∧
 (decide
 (x.snd.fst ≤
 (List.getD x.fst (Int.toNat a_1)
 (Ty.dflt t43)).fst.snd.fst) =
 false →
 (IntKind.wrap IntKind.i64 (a_1 + (1 : Int)) =
 IntKind.wrap IntKind.i64 (a_1 + (1 : Int)) ∧
 IntKind.wrap IntKind.i64
 ((List.getD x.fst (Int.toNat a_1)
 (Ty.dflt t43)).snd.fst.snd.fst -
 (List.getD x.fst (Int.toNat a_1)
 (Ty.dflt t43)).fst.snd.fst) =
 IntKind.wrap IntKind.i64
 ((List.getD x.fst (Int.toNat a_1)
 (Ty.dflt t43)).snd.fst.snd.fst -
 (List.getD x.fst (Int.toNat a_1)
 (Ty.dflt t43)).fst.snd.fst) ∧
 x.snd.fst = x.snd.fst ∧
 x.snd.snd.fst = x.snd.snd.fst ∧
 x.fst = x.fst ∧
 (↑(List.length x.fst) : Int) =
 (↑(List.length x.fst) : Int)) ∧
 Z
 (IntKind.wrap IntKind.i64
 ((List.getD x.fst (Int.toNat a_1)
 (Ty.dflt t43)).snd.fst.snd.fst -
 (List.getD x.fst (Int.toNat a_1)
 (Ty.dflt t43)).fst.snd.fst),
 IntKind.wrap IntKind.i64 (a_1 + (1 : Int)), ()) ∧
 μ
 (IntKind.wrap IntKind.i64
 ((List.getD x.fst (Int.toNat a_1)
 (Ty.dflt t43)).snd.fst.snd.fst -
 (List.getD x.fst (Int.toNat a_1)
 (Ty.dflt t43)).fst.snd.fst),
 IntKind.wrap IntKind.i64 (a_1 + (1 : Int)), ()) <
 μ (a, a_1, ())))) ∧
 (decide
 (x.snd.fst ≤
 (List.getD x.fst (Int.toNat a_1) (Ty.dflt t43)).fst.snd.fst) =
 false →
 (decide
 (x.snd.fst ≤
 (List.getD x.fst (Int.toNat a_1) (Ty.dflt t43)).fst.snd.fst) =
 true →
 ((List.getD x.fst (Int.toNat a_1) (Ty.dflt t43)).snd.fst.snd.fst,
 (0 : Int), ()) =
 mapP x.fst x.snd.fst x.snd.snd.fst) ∧
 (decide
 (x.snd.fst ≤
 (List.getD x.fst (Int.toNat a_1) (Ty.dflt t43)).fst.snd.fst) =
 false →
 (IntKind.wrap IntKind.i64 (a_1 + (1 : Int)) =
 IntKind.wrap IntKind.i64 (a_1 + (1 : Int)) ∧
 IntKind.wrap IntKind.i64
 ((List.getD x.fst (Int.toNat a_1)
 (Ty.dflt t43)).snd.fst.snd.fst -
 (List.getD x.fst (Int.toNat a_1)
 (Ty.dflt t43)).fst.snd.fst) =
 IntKind.wrap IntKind.i64
 ((List.getD x.fst (Int.toNat a_1)
 (Ty.dflt t43)).snd.fst.snd.fst -
 (List.getD x.fst (Int.toNat a_1)
 (Ty.dflt t43)).fst.snd.fst) ∧
 x.snd.fst = x.snd.fst ∧
 x.snd.snd.fst = x.snd.snd.fst ∧
 x.fst = x.fst ∧
 (↑(List.length x.fst) : Int) =
 (↑(List.length x.fst) : Int)) ∧
 Z
 (IntKind.wrap IntKind.i64
 ((List.getD x.fst (Int.toNat a_1)
 (Ty.dflt t43)).snd.fst.snd.fst -
 (List.getD x.fst (Int.toNat a_1)
 (Ty.dflt t43)).fst.snd.fst),
 IntKind.wrap IntKind.i64 (a_1 + (1 : Int)), ()) ∧
 μ
 (IntKind.wrap IntKind.i64
 ((List.getD x.fst (Int.toNat a_1)
 (Ty.dflt t43)).snd.fst.snd.fst -
 (List.getD x.fst (Int.toNat a_1)
 (Ty.dflt t43)).fst.snd.fst),
 IntKind.wrap IntKind.i64 (a_1 + (1 : Int)), ()) <
 μ (a, a_1, ()))))) ∧
 (decide (a_1 < (↑(List.length x.fst) : Int)) = false →
 (IntKind.wrap IntKind.i64 (x.snd.fst + a), (0 : Int), ()) =
 mapP x.fst x.snd.fst x.snd.snd.fst)))))
theorem vcEq32 : fnVC E32 Try.f32 (bodyOf Try.f32) cMap = vc32 := by kernel_rfl
/- fn 35 -/
def hs35 : List (Nat × Nat × Hint) := [(0, 2, ⟨[.slot 9 t3], [0, 7, 8], [], []⟩)]
def nm35 : List Nat := [3000000027]
noncomputable def E35 : Env := env tab [(45, cWithin)] [] noGl hs35 nm35
def vc35 : Prop :=
 ∀ (x : List Chg × Unit),
 List.length x.fst ≤ maxLen →
 ((0 : Int) = (0 : Int) ∧
 x.fst = x.fst ∧ x.fst = x.fst ∧ (↑(List.length x.fst) : Int) = (↑(List.length x.fst) : Int)) ∧
 ∃ (Z : Int × Unit → Prop),
 ∃ (μ : Int × Unit → Nat),
 Z ((0 : Int), ()) ∧
 ∀ (a : Int),
 Z (a, ()) →
 (decide (a < (↑(List.length x.fst) : Int)) = true →
 ((0 : Int) ≤ a ∧ a < (↑(List.length x.fst) : Int)) ∧
 True ∧
 ((!within (List.getD x.fst (Int.toNat a) (Ty.dflt t75)).fst) = true → false = normal x.fst) ∧
 ((!within (List.getD x.fst (Int.toNat a) (Ty.dflt t75)).fst) = false →
 True ∧
 ((!within (List.getD x.fst (Int.toNat a) (Ty.dflt t75)).snd.fst) = true →
 false = normal x.fst) ∧
 ((!within (List.getD x.fst (Int.toNat a) (Ty.dflt t75)).snd.fst) = false →
 (((List.getD x.fst (Int.toNat a) (Ty.dflt t75)).fst.fst ==
 (List.getD x.fst (Int.toNat a) (Ty.dflt t75)).fst.snd.fst) =
 true →
 (((List.getD x.fst (Int.toNat a) (Ty.dflt t75)).snd.fst.fst ==
 (List.getD x.fst (Int.toNat a) (Ty.dflt t75)).snd.fst.snd.fst) =
 true →
 false = normal x.fst) ∧
 (((List.getD x.fst (Int.toNat a) (Ty.dflt t75)).snd.fst.fst ==
 (List.getD x.fst (Int.toNat a) (Ty.dflt t75)).snd.fst.snd.fst) =
 false →
 (decide (a > (0 : Int)) = true →
 ((0 : Int) ≤ IntKind.wrap IntKind.i64 (a - (1 : Int)) ∧
 IntKind.wrap IntKind.i64 (a - (1 : Int)) <
 (↑(List.length x.fst) : Int)) ∧
 (decide
 (IntKind.wrap IntKind.i64
 ((List.getD x.fst (Int.toNat a) (Ty.dflt t75)).fst.fst -
 (List.getD x.fst
 (Int.toNat
 (IntKind.wrap IntKind.i64 (a - (1 : Int))))
 (Ty.dflt t75)).fst.snd.fst) <
 (0 : Int)) =
 true →
 false = normal x.fst) ∧
 (decide
 (IntKind.wrap IntKind.i64
 ((List.getD x.fst (Int.toNat a) (Ty.dflt t75)).fst.fst -
 (List.getD x.fst
 (Int.toNat
 (IntKind.wrap IntKind.i64 (a - (1 : Int))))
 (Ty.dflt t75)).fst.snd.fst) <
 (0 : Int)) =
 false →
 ((IntKind.wrap IntKind.i64
 ((List.getD x.fst (Int.toNat a) (Ty.dflt t75)).fst.fst -
 (List.getD x.fst
 (Int.toNat
 (IntKind.wrap IntKind.i64 (a - (1 : Int))))
 (Ty.dflt t75)).fst.snd.fst) !=
 IntKind.wrap IntKind.i64
 ((List.getD x.fst (Int.toNat a)
 (Ty.dflt t75)).snd.fst.fst -
 (List.getD x.fst
 (Int.toNat
 (IntKind.wrap IntKind.i64 (a - (1 : Int))))
 (Ty.dflt t75)).snd.fst.snd.fst)) =
 true →
 false = normal x.fst) ∧
 ((IntKind.wrap IntKind.i64
 ((List.getD x.fst (Int.toNat a) (Ty.dflt t75)).fst.fst -
 (List.getD x.fst
 (Int.toNat
 (IntKind.wrap IntKind.i64 (a - (1 : Int))))
 (Ty.dflt t75)).fst.snd.fst) !=
 IntKind.wrap IntKind.i64
 ((List.getD x.fst (Int.toNat a)
 (Ty.dflt t75)).snd.fst.fst -
 (List.getD x.fst
 (Int.toNat
 (IntKind.wrap IntKind.i64 (a - (1 : Int))))
 (Ty.dflt t75)).snd.fst.snd.fst)) =
 false →
 (decide (a > (0 : Int)) = true →
 ((IntKind.wrap IntKind.i64
 ((List.getD x.fst (Int.toNat a)
 (Ty.dflt t75)).fst.fst -
 (List.getD x.fst
 (Int.toNat
 (IntKind.wrap IntKind.i64
 (a - (1 : Int))))
 (Ty.dflt t75)).fst.snd.fst) ==
 (0 : Int)) =
 true →
 false = normal x.fst) ∧
 ((IntKind.wrap IntKind.i64
 ((List.getD x.fst (Int.toNat a)
 (Ty.dflt t75)).fst.fst -
 (List.getD x.fst
 (Int.toNat
 (IntKind.wrap IntKind.i64
 (a - (1 : Int))))
 (Ty.dflt t75)).fst.snd.fst) ==
 (0 : Int)) =
 false →
 (IntKind.wrap IntKind.i64 (a + (1 : Int)) =
 IntKind.wrap IntKind.i64 (a + (1 : Int)) ∧
 x.fst = x.fst ∧
 x.fst = x.fst ∧
 (↑(List.length x.fst) : Int) =
 (↑(List.length x.fst) : Int)) ∧
 Z (IntKind.wrap IntKind.i64 (a + (1 : Int)), ()) ∧
 μ (IntKind.wrap IntKind.i64 (a + (1 : Int)), ()) <
 μ (a, ()))) ∧
 (decide (a > (0 : Int)) = false →
 (IntKind.wrap IntKind.i64 (a + (1 : Int)) =
 IntKind.wrap IntKind.i64 (a + (1 : Int)) ∧
 x.fst = x.fst ∧
 x.fst = x.fst ∧
 (↑(List.length x.fst) : Int) =
 (↑(List.length x.fst) : Int)) ∧
 Z (IntKind.wrap IntKind.i64 (a + (1 : Int)), ()) ∧
 μ (IntKind.wrap IntKind.i64 (a + (1 : Int)), ()) <
 μ (a, ()))))) ∧
 (decide (a > (0 : Int)) = false →
 (decide
 (IntKind.wrap IntKind.i64
 ((List.getD x.fst (Int.toNat a) (Ty.dflt t75)).fst.fst -
 (0 : Int)) <
 (0 : Int)) =
 true →
 false = normal x.fst) ∧
 (decide
 (IntKind.wrap IntKind.i64
 ((List.getD x.fst (Int.toNat a) (Ty.dflt t75)).fst.fst -
 (0 : Int)) <
 (0 : Int)) =
 false →
 ((IntKind.wrap IntKind.i64
 ((List.getD x.fst (Int.toNat a) (Ty.dflt t75)).fst.fst -
 (0 : Int)) !=
 IntKind.wrap IntKind.i64
 ((List.getD x.fst (Int.toNat a) (Ty.dflt t75)).snd.fst.fst -
 (0 : Int))) =
 true →
 false = normal x.fst) ∧
 ((IntKind.wrap IntKind.i64
 ((List.getD x.fst (Int.toNat a) (Ty.dflt t75)).fst.fst -
 (0 : Int)) !=
 IntKind.wrap IntKind.i64
 ((List.getD x.fst (Int.toNat a) (Ty.dflt t75)).snd.fst.fst -
 (0 : Int))) =
 false →
 (decide (a > (0 : Int)) = true →
 ((IntKind.wrap IntKind.i64
 ((List.getD x.fst (Int.toNat a)
 (Ty.dflt t75)).fst.fst -
 (0 : Int)) ==
 (0 : Int)) =
 true →
 false = normal x.fst) ∧
 ((IntKind.wrap IntKind.i64
 ((List.getD x.fst (Int.toNat a)
 (Ty.dflt t75)).fst.fst -
 (0 : Int)) ==
 (0 : Int)) =
 false →
 (IntKind.wrap IntKind.i64 (a + (1 : Int)) =
 IntKind.wrap IntKind.i64 (a + (1 : Int)) ∧
 x.fst = x.fst ∧
 x.fst = x.fst ∧
 (↑(List.length x.fst) : Int) =
 (↑(List.length x.fst) : Int)) ∧
 Z (IntKind.wrap IntKind.i64 (a + (1 : Int)), ()) ∧
 μ (IntKind.wrap IntKind.i64 (a + (1 : Int)), ()) <
 μ (a, ()))) ∧
 (decide (a > (0 : Int)) = false →
 (IntKind.wrap IntKind.i64 (a + (1 : Int)) =
 IntKind.wrap IntKind.i64 (a + (1 : Int)) ∧
 x.fst = x.fst ∧
 x.fst = x.fst ∧
 (↑(List.length x.fst) : Int) =
 (↑(List.length x.fst) : Int)) ∧
 Z (IntKind.wrap IntKind.i64 (a + (1 : Int)), ()) ∧
 μ (IntKind.wrap IntKind.i64 (a + (1 : Int)), ()) <
 μ (a, ()))))))) ∧
 (((List.getD x.fst (Int.toNat a) (Ty.dflt t75)).fst.fst ==
 (List.getD x.fst (Int.toNat a) (Ty.dflt t75)).fst.snd.fst) =
 false →
 (decide (a > (0 : Int)) = true →
 ((0 : Int) ≤ IntKind.wrap IntKind.i64 (a - (1 : Int)) ∧
 IntKind.wrap IntKind.i64 (a - (1 : Int)) < (↑(List.length x.fst) : Int)) ∧
 (decide
 (IntKind.wrap IntKind.i64
 ((List.getD x.fst (Int.toNat a) (Ty.dflt t75)).fst.fst -
 (List.getD x.fst
 (Int.toNat (IntKind.wrap IntKind.i64 (a - (1 : Int))))
 (Ty.dflt t75)).fst.snd.fst) <
 (0 : Int)) =
 true →
 false = normal x.fst) ∧
 (decide
 (IntKind.wrap IntKind.i64
 ((List.getD x.fst (Int.toNat a) (Ty.dflt t75)).fst.fst -
 (List.getD x.fst
 (Int.toNat (IntKind.wrap IntKind.i64 (a - (1 : Int))))
 (Ty.dflt t75)).fst.snd.fst) <
 (0 : Int)) =
 false →
 ((IntKind.wrap IntKind.i64
 ((List.getD x.fst (Int.toNat a) (Ty.dflt t75)).fst.fst -
 (List.getD x.fst
 (Int.toNat
 (IntKind.wrap IntKind.i64 (a - (1 : Int))))
 (Ty.dflt t75)).fst.snd.fst) !=
 IntKind.wrap IntKind.i64
 ((List.getD x.fst (Int.toNat a) (Ty.dflt t75)).snd.fst.fst -
 (List.getD x.fst
 (Int.toNat
 (IntKind.wrap IntKind.i64 (a - (1 : Int))))
 (Ty.dflt t75)).snd.fst.snd.fst)) =
 true →
 false = normal x.fst) ∧
 ((IntKind.wrap IntKind.i64
 ((List.getD x.fst (Int.toNat a) (Ty.dflt t75)).fst.fst -
 (List.getD x.fst
 (Int.toNat
 (IntKind.wrap IntKind.i64 (a - (1 : Int))))
 (Ty.dflt t75)).fst.snd.fst) !=
 IntKind.wrap IntKind.i64
 ((List.getD x.fst (Int.toNat a) (Ty.dflt t75)).snd.fst.fst -
 (List.getD x.fst
 (Int.toNat
 (IntKind.wrap IntKind.i64 (a - (1 : Int))))
 (Ty.dflt t75)).snd.fst.snd.fst)) =
 false →
 (decide (a > (0 : Int)) = true →
 ((IntKind.wrap IntKind.i64
 ((List.getD x.fst (Int.toNat a)
 (Ty.dflt t75)).fst.fst -
 (List.getD x.fst
 (Int.toNat
 (IntKind.wrap IntKind.i64
 (a - (1 : Int))))
 (Ty.dflt t75)).fst.snd.fst) ==
 (0 : Int)) =
 true →
 false = normal x.fst) ∧
 ((IntKind.wrap IntKind.i64
 ((List.getD x.fst (Int.toNat a)
 (Ty.dflt t75)).fst.fst -
 (List.getD x.fst
 (Int.toNat
 (IntKind.wrap IntKind.i64
 (a - (1 : Int))))
 (Ty.dflt t75)).fst.snd.fst) ==
 (0 : Int)) =
 false →
 (IntKind.wrap IntKind.i64 (a + (1 : Int)) =
 IntKind.wrap IntKind.i64 (a + (1 : Int)) ∧
 x.fst = x.fst ∧
 x.fst = x.fst ∧
 (↑(List.length x.fst) : Int) =
 (↑(List.length x.fst) : Int)) ∧
 Z (IntKind.wrap IntKind.i64 (a + (1 : Int)), ()) ∧
 μ (IntKind.wrap IntKind.i64 (a + (1 : Int)), ()) <
 μ (a, ()))) ∧
 (decide (a > (0 : Int)) = false →
 (IntKind.wrap IntKind.i64 (a + (1 : Int)) =
 IntKind.wrap IntKind.i64 (a + (1 : Int)) ∧
 x.fst = x.fst ∧
 x.fst = x.fst ∧
 (↑(List.length x.fst) : Int) =
 (↑(List.length x.fst) : Int)) ∧
 Z (IntKind.wrap IntKind.i64 (a + (1 : Int)), ()) ∧
 μ (IntKind.wrap IntKind.i64 (a + (1 : Int)), ()) <
 μ (a, ()))))) ∧
 (decide (a > (0 : Int)) = false →
 (decide
 (IntKind.wrap IntKind.i64
 ((List.getD x.fst (Int.toNat a) (Ty.dflt t75)).fst.fst -
 (0 : Int)) <
 (0 : Int)) =
 true →
 false = normal x.fst) ∧
 (decide
 (IntKind.wrap IntKind.i64
 ((List.getD x.fst (Int.toNat a) (Ty.dflt t75)).fst.fst -
 (0 : Int)) <
 (0 : Int)) =
 false →
 ((IntKind.wrap IntKind.i64
 ((List.getD x.fst (Int.toNat a) (Ty.dflt t75)).fst.fst -
 (0 : Int)) !=
 IntKind.wrap IntKind.i64
 ((List.getD x.fst (Int.toNat a) (Ty.dflt t75)).snd.fst.fst -
 (0 : Int))) =
 true →
 false = normal x.fst) ∧
 ((IntKind.wrap IntKind.i64
 ((List.getD x.fst (Int.toNat a) (Ty.dflt t75)).fst.fst -
 (0 : Int)) !=
 IntKind.wrap IntKind.i64
 ((List.getD x.fst (Int.toNat a) (Ty.dflt t75)).snd.fst.fst -
 (0 : Int))) =
 false →
 (decide (a > (0 : Int)) = true →
 ((IntKind.wrap IntKind.i64
 ((List.getD x.fst (Int.toNat a) (Ty.dflt t75)).fst.fst -
 (0 : Int)) ==
 (0 : Int)) =
 true →
 false = normal x.fst) ∧
 ((IntKind.wrap IntKind.i64
 ((List.getD x.fst (Int.toNat a) (Ty.dflt t75)).fst.fst -
 (0 : Int)) ==
 (0 : Int)) =
 false →
 (IntKind.wrap IntKind.i64 (a + (1 : Int)) =
 IntKind.wrap IntKind.i64 (a + (1 : Int)) ∧
 x.fst = x.fst ∧
 x.fst = x.fst ∧
 (↑(List.length x.fst) : Int) =
 (↑(List.length x.fst) : Int)) ∧
 Z (IntKind.wrap IntKind.i64 (a + (1 : Int)), ()) ∧
 μ (IntKind.wrap IntKind.i64 (a + (1 : Int)), ()) <
 μ (a, ()))) ∧
 (decide (a > (0 : Int)) = false →
 (IntKind.wrap IntKind.i64 (a + (1 : Int)) =
 IntKind.wrap IntKind.i64 (a + (1 : Int)) ∧
 x.fst = x.fst ∧
 x.fst = x.fst ∧
 (↑(List.length x.fst) : Int) =
 (↑(List.length x.fst) : Int)) ∧
 Z (IntKind.wrap IntKind.i64 (a + (1 : Int)), ()) ∧
 μ (IntKind.wrap IntKind.i64 (a + (1 : Int)), ()) <
 μ (a, ()))))))))) ∧
 (decide (a < (↑(List.length x.fst) : Int)) = false → true = normal x.fst)
theorem vcEq35 : fnVC E35 Try.f35 (bodyOf Try.f35) cRefNormal = vc35 := by kernel_rfl
/- fn 36 -/
def hs36 : List (Nat × Nat × Hint) := [(0, 3, ⟨[.slot 7 t3, .slot 12 t3], [1, 2, 10, 11], [], []⟩)]
def nm36 : List Nat := [3000000027]
noncomputable def E36 : Env := env tab [] [] noGl hs36 nm36
def vc36 : Prop :=
 ∀ (x : List Chg × Int × Int × Unit),
 List.length x.fst ≤ maxLen ∧ normal x.fst = true ∧ (0 : Int) ≤ x.snd.fst ∧ x.snd.fst ≤ (1099511627776 : Int) →
 ((0 : Int) = (0 : Int) ∧
 (0 : Int) = (0 : Int) ∧
 x.snd.fst = x.snd.fst ∧
 x.snd.snd.fst = x.snd.snd.fst ∧
 x.fst = x.fst ∧ (↑(List.length x.fst) : Int) = (↑(List.length x.fst) : Int)) ∧
 ∃ (Z : Int × Int × Unit → Prop),
 ∃ (μ : Int × Int × Unit → Nat),
 Z ((0 : Int), (0 : Int), ()) ∧
 ∀ (a a_1 : Int),
 Z (a, a_1, ()) →
 (decide (a_1 < (↑(List.length x.fst) : Int)) = true →
 ((0 : Int) ≤ a_1 ∧ a_1 < (↑(List.length x.fst) : Int)) ∧
 (decide (x.snd.fst ≥ (List.getD x.fst (Int.toNat a_1) (Ty.dflt t75)).fst.fst) = true →
 (decide (x.snd.fst ≤ (List.getD x.fst (Int.toNat a_1) (Ty.dflt t75)).fst.snd.fst) = true →
 ((x.snd.snd.fst == (0 : Int)) = true →
 (List.getD x.fst (Int.toNat a_1) (Ty.dflt t75)).snd.fst.fst =
 refMap x.snd.fst x.snd.snd.fst x.fst (0 : Int)) ∧
 ((x.snd.snd.fst == (0 : Int)) = false →
 (List.getD x.fst (Int.toNat a_1) (Ty.dflt t75)).snd.fst.snd.fst =
 refMap x.snd.fst x.snd.snd.fst x.fst (0 : Int))) ∧
 (decide (x.snd.fst ≤ (List.getD x.fst (Int.toNat a_1) (Ty.dflt t75)).fst.snd.fst) = false →
 (decide (x.snd.fst > (List.getD x.fst (Int.toNat a_1) (Ty.dflt t75)).fst.snd.fst) = true →
 (IntKind.wrap IntKind.i64 (a_1 + (1 : Int)) =
 IntKind.wrap IntKind.i64 (a_1 + (1 : Int)) ∧
 IntKind.wrap IntKind.i64
 ((List.getD x.fst (Int.toNat a_1) (Ty.dflt t75)).snd.fst.snd.fst -
 (List.getD x.fst (Int.toNat a_1) (Ty.dflt t75)).fst.snd.fst) =
 IntKind.wrap IntKind.i64
 ((List.getD x.fst (Int.toNat a_1) (Ty.dflt t75)).snd.fst.snd.fst -
 (List.getD x.fst (Int.toNat a_1) (Ty.dflt t75)).fst.snd.fst) ∧
 x.snd.fst = x.snd.fst ∧
 x.snd.snd.fst = x.snd.snd.fst ∧
 x.fst = x.fst ∧
 (↑(List.length x.fst) : Int) = (↑(List.length x.fst) : Int)) ∧
 Z
 (IntKind.wrap IntKind.i64
 ((List.getD x.fst (Int.toNat a_1) (Ty.dflt t75)).snd.fst.snd.fst -
 (List.getD x.fst (Int.toNat a_1) (Ty.dflt t75)).fst.snd.fst),
 IntKind.wrap IntKind.i64 (a_1 + (1 : Int)), ()) ∧
 μ
 (IntKind.wrap IntKind.i64
 ((List.getD x.fst (Int.toNat a_1) (Ty.dflt t75)).snd.fst.snd.fst -
 (List.getD x.fst (Int.toNat a_1) (Ty.dflt t75)).fst.snd.fst),
 IntKind.wrap IntKind.i64 (a_1 + (1 : Int)), ()) <
 μ (a, a_1, ())) ∧
 (decide (x.snd.fst > (List.getD x.fst (Int.toNat a_1) (Ty.dflt t75)).fst.snd.fst) =
 false →
 (IntKind.wrap IntKind.i64 (a_1 + (1 : Int)) =
 IntKind.wrap IntKind.i64 (a_1 + (1 : Int)) ∧
 a = a ∧
 x.snd.fst = x.snd.fst ∧
 x.snd.snd.fst = x.snd.snd.fst ∧
 x.fst = x.fst ∧
 (↑(List.length x.fst) : Int) = (↑(List.length x.fst) : Int)) ∧
 Z (a, IntKind.wrap IntKind.i64 (a_1 + (1 : Int)), ()) ∧
 μ (a, IntKind.wrap IntKind.i64 (a_1 + (1 : Int)), ()) < μ (a, a_1, ())))) ∧
 (decide (x.snd.fst ≥ (List.getD x.fst (Int.toNat a_1) (Ty.dflt t75)).fst.fst) = false →
 (decide (x.snd.fst > (List.getD x.fst (Int.toNat a_1) (Ty.dflt t75)).fst.snd.fst) = true →
 (IntKind.wrap IntKind.i64 (a_1 + (1 : Int)) = IntKind.wrap IntKind.i64 (a_1 + (1 : Int)) ∧
 IntKind.wrap IntKind.i64
 ((List.getD x.fst (Int.toNat a_1) (Ty.dflt t75)).snd.fst.snd.fst -
 (List.getD x.fst (Int.toNat a_1) (Ty.dflt t75)).fst.snd.fst) =
 IntKind.wrap IntKind.i64
 ((List.getD x.fst (Int.toNat a_1) (Ty.dflt t75)).snd.fst.snd.fst -
 (List.getD x.fst (Int.toNat a_1) (Ty.dflt t75)).fst.snd.fst) ∧
 x.snd.fst = x.snd.fst ∧
 x.snd.snd.fst = x.snd.snd.fst ∧
 x.fst = x.fst ∧ (↑(List.length x.fst) : Int) = (↑(List.length x.fst) : Int)) ∧
 Z
 (IntKind.wrap IntKind.i64
 ((List.getD x.fst (Int.toNat a_1) (Ty.dflt t75)).snd.fst.snd.fst -
 (List.getD x.fst (Int.toNat a_1) (Ty.dflt t75)).fst.snd.fst),
 IntKind.wrap IntKind.i64 (a_1 + (1 : Int)), ()) ∧
 μ
 (IntKind.wrap IntKind.i64
 ((List.getD x.fst (Int.toNat a_1) (Ty.dflt t75)).snd.fst.snd.fst -
 (List.getD x.fst (Int.toNat a_1) (Ty.dflt t75)).fst.snd.fst),
 IntKind.wrap IntKind.i64 (a_1 + (1 : Int)), ()) <
 μ (a, a_1, ())) ∧
 (decide (x.snd.fst > (List.getD x.fst (Int.toNat a_1) (Ty.dflt t75)).fst.snd.fst) = false →
 (IntKind.wrap IntKind.i64 (a_1 + (1 : Int)) = IntKind.wrap IntKind.i64 (a_1 + (1 : Int)) ∧
 a = a ∧
 x.snd.fst = x.snd.fst ∧
 x.snd.snd.fst = x.snd.snd.fst ∧
 x.fst = x.fst ∧ (↑(List.length x.fst) : Int) = (↑(List.length x.fst) : Int)) ∧
 Z (a, IntKind.wrap IntKind.i64 (a_1 + (1 : Int)), ()) ∧
 μ (a, IntKind.wrap IntKind.i64 (a_1 + (1 : Int)), ()) < μ (a, a_1, ())))) ∧
 (decide (a_1 < (↑(List.length x.fst) : Int)) = false →
 IntKind.wrap IntKind.i64 (x.snd.fst + a) = refMap x.snd.fst x.snd.snd.fst x.fst (0 : Int))
theorem vcEq36 : fnVC E36 Try.f36 (bodyOf Try.f36) cRefMap = vc36 := by kernel_rfl
/- fn 39 -/
def hs39 : List (Nat × Nat × Hint) := [(0, 3, ⟨[.slot 8 t3], [3, 6, 7], [], []⟩)]
def nm39 : List Nat := [3000000027]
noncomputable def E39 : Env := env tab [] [] noGl hs39 nm39
def vc39 : Prop :=
 ∀ (x : List Int × Unit),
 List.length x.fst ≤ maxLen →
 ((0 : Int) = (0 : Int) ∧
 (0 : Int) = (0 : Int) ∧ x.fst = x.fst ∧ (↑(List.length x.fst) : Int) = (↑(List.length x.fst) : Int)) ∧
 ∃ (Z : Int × Unit → Prop),
 ∃ (μ : Int × Unit → Nat),
 Z ((0 : Int), ()) ∧
 ∀ (a : Int),
 Z (a, ()) →
 (decide (a < (↑(List.length x.fst) : Int)) = true →
 ((0 : Int) ≤ a ∧ a < (↑(List.length x.fst) : Int)) ∧
 ((List.getD x.fst (Int.toNat a) (Ty.dflt t3) != (0 : Int)) = true →
 List.getD x.fst (Int.toNat a) (Ty.dflt t3) = firstNZ x.fst) ∧
 ((List.getD x.fst (Int.toNat a) (Ty.dflt t3) != (0 : Int)) = false →
 (IntKind.wrap IntKind.i64 (a + (1 : Int)) = IntKind.wrap IntKind.i64 (a + (1 : Int)) ∧
 (0 : Int) = (0 : Int) ∧
 x.fst = x.fst ∧ (↑(List.length x.fst) : Int) = (↑(List.length x.fst) : Int)) ∧
 Z (IntKind.wrap IntKind.i64 (a + (1 : Int)), ()) ∧
 μ (IntKind.wrap IntKind.i64 (a + (1 : Int)), ()) < μ (a, ()))) ∧
 (decide (a < (↑(List.length x.fst) : Int)) = false → (0 : Int) = firstNZ x.fst)
theorem vcEq39 : fnVC E39 Try.f39 (bodyOf Try.f39) cOr = vc39 := by kernel_rfl
/- fn 40 -/
def hs40 : List (Nat × Nat × Hint) := []
def nm40 : List Nat := [3000000027]
noncomputable def E40 : Env := env tab [] [(56, Try.f56)] noGl hs40 nm40
def vc40 : Prop :=
 ∀ (x : Int × Int × Unit),
 True →
 ((x.fst != x.fst) = true →
 ((x.snd.fst != x.snd.fst) = true → (0 : Int) = cmpI x.fst x.snd.fst) ∧
 ((x.snd.fst != x.snd.fst) = false → (-1 : Int) = cmpI x.fst x.snd.fst)) ∧
 ((x.fst != x.fst) = false →
 ((x.snd.fst != x.snd.fst) = true → (1 : Int) = cmpI x.fst x.snd.fst) ∧
 ((x.snd.fst != x.snd.fst) = false →
 (decide (x.fst < x.snd.fst) = true → (-1 : Int) = cmpI x.fst x.snd.fst) ∧
 (decide (x.fst < x.snd.fst) = false →
 (decide (x.fst > x.snd.fst) = true → (1 : Int) = cmpI x.fst x.snd.fst) ∧
 (decide (x.fst > x.snd.fst) = false → (0 : Int) = cmpI x.fst x.snd.fst))))
theorem vcEq40 : fnVC E40 Try.f40 (bodyOf Try.f40) cCmp = vc40 := by kernel_rfl
/- fn 41 -/
def hs41 : List (Nat × Nat × Hint) := []
def nm41 : List Nat := [3000000027]
noncomputable def E41 : Env := env tab [] [] noGl hs41 nm41
def vc41 : Prop :=
 ∀ (x : Chg),
 True →
 (decide (x.fst.fst < x.snd.fst.snd.fst) = true →
 decide (x.snd.fst.fst < x.fst.snd.fst) =
 (decide (x.fst.fst < x.snd.fst.snd.fst) && decide (x.snd.fst.fst < x.fst.snd.fst))) ∧
 (decide (x.fst.fst < x.snd.fst.snd.fst) = false →
 false = (decide (x.fst.fst < x.snd.fst.snd.fst) && decide (x.snd.fst.fst < x.fst.snd.fst)))
theorem vcEq41 : fnVC E41 Try.f41 (bodyOf Try.f41) cOverlap = vc41 := by kernel_rfl
/- fn 42 -/
def hs42 : List (Nat × Nat × Hint) := []
def nm42 : List Nat := [3000000027]
noncomputable def E42 : Env := env tab [] [] noGl hs42 nm42
def vc42 : Prop :=
 ∀ (x : Span × Unit),
 True →
 (decide (x.fst.fst ≥ (0 : Int)) = true →
 (decide (x.fst.snd.fst ≥ x.fst.fst) = true → decide (x.fst.snd.fst ≤ (1099511627776 : Int)) = within x.fst) ∧
 (decide (x.fst.snd.fst ≥ x.fst.fst) = false → false = within x.fst)) ∧
 (decide (x.fst.fst ≥ (0 : Int)) = false → false = within x.fst)
theorem vcEq42 : fnVC E42 Try.f42 (bodyOf Try.f42) cWithin = vc42 := by kernel_rfl
/- fn 43 -/
def hs43 : List (Nat × Nat × Hint) := []
def nm43 : List Nat := [3000000027]
noncomputable def E43 : Env := env tab [] [] noGl hs43 nm43
def vc43 : Prop :=
 ∀ (x : Span × Unit), True → IntKind.wrap IntKind.i64 (x.fst.snd.fst - x.fst.fst) = size x.fst
theorem vcEq43 : fnVC E43 Try.f43 (bodyOf Try.f43) cSize = vc43 := by kernel_rfl
/- fn 45 -/
def hs45 : List (Nat × Nat × Hint) := []
def nm45 : List Nat := [3000000027]
noncomputable def E45 : Env := env tab [] [] noGl hs45 nm45
def vc45 : Prop :=
 ∀ (x : Span × Unit),
 True →
 (decide (x.fst.fst ≥ (0 : Int)) = true →
 (decide (x.fst.fst ≤ x.fst.snd.fst) = true → decide (x.fst.snd.fst ≤ (1099511627776 : Int)) = within x.fst) ∧
 (decide (x.fst.fst ≤ x.fst.snd.fst) = false → false = within x.fst)) ∧
 (decide (x.fst.fst ≥ (0 : Int)) = false → false = within x.fst)
theorem vcEq45 : fnVC E45 Try.f45 (bodyOf Try.f45) cWithin = vc45 := by kernel_rfl
end Go.Fr.C15
