/-
  Conditions to be proved, function by function, printed by a program. Conditions: none.
-/
import Derived.Test.YtepnpmaoodljkaaDoorC13A
namespace Go.Fr.C13
open Go Go.Fr Go.Proofs
set_option maxRecDepth 100000

/- fn 3 -/
def hs3 : List (Nat × Nat × Hint) := []
def nm3 : List Nat := [3000000025]
noncomputable def E3 : Env := env tab [(8, cLong), (9, cThree), (10, cNew), (11, cRefNew), (12, cIs), (14, cBetween), (15, cRefBetween), (13, cSame)] [] gl hs3 nm3
def vc3 : Prop :=
 ∀ (x : Int × List Inl × (Int × Int × Unit) × Unit),
 List.length x.snd.fst ≤ maxLen →
 List.length x.snd.fst ≤ maxLen ∧
 (longI x.snd.fst = true → True ∧ true = true) ∧
 (longI x.snd.fst = false →
 (List.length x.snd.fst ≤ maxLen ∧ shortL x.snd.fst) ∧
 (List.length x.snd.fst ≤ maxLen ∧ shortL x.snd.fst) ∧
 (List.length (allI (newI x.fst x.snd.fst).fst) ≤ (10000 : Nat) ∧
 List.length (newW x.fst x.snd.fst).snd.fst ≤ (10000 : Nat)) ∧
 ((!isI (newI x.fst x.snd.fst).fst (newI x.fst x.snd.fst).snd.fst (newW x.fst x.snd.fst)) = true →
 false = true) ∧
 ((!isI (newI x.fst x.snd.fst).fst (newI x.fst x.snd.fst).snd.fst (newW x.fst x.snd.fst)) = false →
 (Option.isNone (newI x.fst x.snd.fst).fst = true → True ∧ true = true) ∧
 (Option.isNone (newI x.fst x.snd.fst).fst = false →
 List.length (allI (newI x.fst x.snd.fst).fst) ≤ (10000 : Nat) ∧
 List.length (newW x.fst x.snd.fst).snd.fst ≤ (10000 : Nat) ∧
 (List.length
 (List.filter (inI x.snd.snd.fst.fst x.snd.snd.fst.snd.fst)
 (allI (newI x.fst x.snd.fst).fst)) ≤
 maxLen ∧
 List.length
 (List.filter (inI x.snd.snd.fst.fst x.snd.snd.fst.snd.fst)
 (newW x.fst x.snd.fst).snd.fst) ≤
 maxLen) ∧
 (sameL
 (List.filter (inI x.snd.snd.fst.fst x.snd.snd.fst.snd.fst)
 (allI (newI x.fst x.snd.fst).fst))
 (List.filter (inI x.snd.snd.fst.fst x.snd.snd.fst.snd.fst)
 (newW x.fst x.snd.fst).snd.fst) =
 true →
 True ∧ true = true) ∧
 (sameL
 (List.filter (inI x.snd.snd.fst.fst x.snd.snd.fst.snd.fst)
 (allI (newI x.fst x.snd.fst).fst))
 (List.filter (inI x.snd.snd.fst.fst x.snd.snd.fst.snd.fst)
 (newW x.fst x.snd.fst).snd.fst) =
 false →
 false = true))))
theorem vcEq3 : fnVC E3 Tryd.f3 (bodyOf Tryd.f3) cInlaysNew = vc3 := by kernel_rfl
/- fn 4 -/
def hs4 : List (Nat × Nat × Hint) := [(0, 11, ⟨[.rowS 11 900000011 t3 3, .slot 67 t3], [7, 9, 65, 66], [], []⟩)]
def nm4 : List Nat := [3000000025]
noncomputable def E4 : Env := env tab [(8, cLong), (9, cThree), (10, cNew), (11, cRefNew), (16, cSplice), (17, cRefSplice), (18, cAll), (13, cSame)] [] gl hs4 nm4
def vc4 : Prop :=
 ∀ (x : Int × List Inl × List Inl × Unit),
 List.length x.snd.fst ≤ maxLen ∧ List.length x.snd.snd.fst ≤ maxLen →
 List.length x.snd.fst ≤ maxLen ∧
 (longI x.snd.fst = true → True ∧ true = true) ∧
 (longI x.snd.fst = false →
 List.length x.snd.snd.fst ≤ maxLen ∧
 (longI x.snd.snd.fst = true → True ∧ true = true) ∧
 (longI x.snd.snd.fst = false →
 (List.length x.snd.fst ≤ maxLen ∧ shortL x.snd.fst) ∧
 (((newI x.fst x.snd.fst).snd.fst != (0 : Int)) = true →
 (List.length x.snd.fst ≤ maxLen ∧ shortL x.snd.fst) ∧
 (((newW x.fst x.snd.fst).snd.snd.fst != (0 : Int)) = true → True ∧ true = true) ∧
 (((newW x.fst x.snd.fst).snd.snd.fst != (0 : Int)) = false → false = true)) ∧
 (((newI x.fst x.snd.fst).snd.fst != (0 : Int)) = false →
 (Option.isNone (newI x.fst x.snd.fst).fst = true →
 (List.length x.snd.fst ≤ maxLen ∧ shortL x.snd.fst) ∧
 (((newW x.fst x.snd.fst).snd.snd.fst != (0 : Int)) = true → True ∧ true = true) ∧
 (((newW x.fst x.snd.fst).snd.snd.fst != (0 : Int)) = false → false = true)) ∧
 (Option.isNone (newI x.fst x.snd.fst).fst = false →
 (okI (newI x.fst x.snd.fst).fst ∧
 (0 : Nat) ≤ (10000 : Nat) ∧
 List.length x.snd.snd.fst ≤ (10000 : Nat) ∧ shortL x.snd.snd.fst) ∧
 (((spliceI (newI x.fst x.snd.fst).fst [] x.snd.snd.fst).snd.fst != (0 : Int)) = true →
 (List.length x.snd.fst ≤ maxLen ∧ shortL x.snd.fst) ∧
 (okW (newW x.fst x.snd.fst) ∧
 (0 : Nat) ≤ (10000 : Nat) ∧
 List.length x.snd.snd.fst ≤ (10000 : Nat) ∧ shortL x.snd.snd.fst) ∧
 (((spliceW (newW x.fst x.snd.fst) [] x.snd.snd.fst).snd.snd.fst != (0 : Int)) =
 true →
 True ∧ true = true) ∧
 (((spliceW (newW x.fst x.snd.fst) [] x.snd.snd.fst).snd.snd.fst != (0 : Int)) =
 false →
 false = true)) ∧
 (((spliceI (newI x.fst x.snd.fst).fst [] x.snd.snd.fst).snd.fst != (0 : Int)) = false →
 (Option.isNone (spliceI (newI x.fst x.snd.fst).fst [] x.snd.snd.fst).fst = true →
 (List.length x.snd.fst ≤ maxLen ∧ shortL x.snd.fst) ∧
 (okW (newW x.fst x.snd.fst) ∧
 (0 : Nat) ≤ (10000 : Nat) ∧
 List.length x.snd.snd.fst ≤ (10000 : Nat) ∧ shortL x.snd.snd.fst) ∧
 (((spliceW (newW x.fst x.snd.fst) [] x.snd.snd.fst).snd.snd.fst != (0 : Int)) =
 true →
 True ∧ true = true) ∧
 (((spliceW (newW x.fst x.snd.fst) [] x.snd.snd.fst).snd.snd.fst !=
 (0 : Int)) =
 false →
 false = true)) ∧
 (Option.isNone (spliceI (newI x.fst x.snd.fst).fst [] x.snd.snd.fst).fst = false →
 (((0 : Int) = (0 : Int) ∧
 True ∧
 (newI x.fst x.snd.fst).fst = (newI x.fst x.snd.fst).fst ∧
 (spliceI (newI x.fst x.snd.fst).fst [] x.snd.snd.fst).fst =
 (spliceI (newI x.fst x.snd.fst).fst [] x.snd.snd.fst).fst ∧
 x.snd.snd.fst = x.snd.snd.fst ∧
 (↑(List.length x.snd.snd.fst) : Int) =
 (↑(List.length x.snd.snd.fst) : Int)) ∧
 True ∧ True) ∧
 ∃ (Z : List Int × Int × Unit → Prop),
 ∃ (μ : List Int × Int × Unit → Nat),
 Z ([], (0 : Int), ()) ∧
 ∀ (a : List Int) (a_1 : Int),
 Z (a, a_1, ()) →
 (decide (a_1 < (↑(List.length x.snd.snd.fst) : Int)) = true →
 ((0 : Int) ≤ a_1 ∧ a_1 < (↑(List.length x.snd.snd.fst) : Int)) ∧
 (List.length a +
 List.length
 [(List.getD x.snd.snd.fst (Int.toNat a_1)
 (Ty.dflt t42)).fst]) *
 (8 : Nat) ≤
 (140737488355328 : Nat) ∧
 List.length a +
 List.length
 [(List.getD x.snd.snd.fst (Int.toNat a_1)
 (Ty.dflt t42)).fst] ≤
 maxLen ∧
 ((IntKind.wrap IntKind.i64 (a_1 + (1 : Int)) =
 IntKind.wrap IntKind.i64 (a_1 + (1 : Int)) ∧
 True ∧
 (newI x.fst x.snd.fst).fst =
 (newI x.fst x.snd.fst).fst ∧
 (spliceI (newI x.fst x.snd.fst).fst []
 x.snd.snd.fst).fst =
 (spliceI (newI x.fst x.snd.fst).fst []
 x.snd.snd.fst).fst ∧
 x.snd.snd.fst = x.snd.snd.fst ∧
 (↑(List.length x.snd.snd.fst) : Int) =
 (↑(List.length x.snd.snd.fst) : Int)) ∧
 a ++
 [(List.getD x.snd.snd.fst (Int.toNat a_1)
 (Ty.dflt t42)).fst] =
 a ++
 [(List.getD x.snd.snd.fst (Int.toNat a_1)
 (Ty.dflt t42)).fst] ∧
 True) ∧
 Z
 (a ++
 [(List.getD x.snd.snd.fst (Int.toNat a_1)
 (Ty.dflt t42)).fst],
 IntKind.wrap IntKind.i64 (a_1 + (1 : Int)), ()) ∧
 μ
 (a ++
 [(List.getD x.snd.snd.fst (Int.toNat a_1)
 (Ty.dflt t42)).fst],
 IntKind.wrap IntKind.i64 (a_1 + (1 : Int)), ()) <
 μ (a, a_1, ())) ∧
 (decide (a_1 < (↑(List.length x.snd.snd.fst) : Int)) = false →
 (okI (spliceI (newI x.fst x.snd.fst).fst [] x.snd.snd.fst).fst ∧
 List.length a ≤ (10000 : Nat) ∧
 (0 : Nat) ≤ (10000 : Nat) ∧ shortL []) ∧
 (((spliceI
 (spliceI (newI x.fst x.snd.fst).fst []
 x.snd.snd.fst).fst
 a []).snd.fst ==
 (0 : Int)) =
 true →
 (Option.isSome
 (spliceI
 (spliceI (newI x.fst x.snd.fst).fst []
 x.snd.snd.fst).fst
 a []).fst =
 true →
 List.length
 (allI
 (spliceI
 (spliceI (newI x.fst x.snd.fst).fst []
 x.snd.snd.fst).fst
 a []).fst) ≤
 (10000 : Nat) ∧
 List.length (allI (newI x.fst x.snd.fst).fst) ≤
 (10000 : Nat) ∧
 (List.length
 (allI
 (spliceI
 (spliceI (newI x.fst x.snd.fst).fst []
 x.snd.snd.fst).fst
 a []).fst) ≤
 maxLen ∧
 List.length (allI (newI x.fst x.snd.fst).fst) ≤
 maxLen) ∧
 (sameL
 (allI
 (spliceI
 (spliceI (newI x.fst x.snd.fst).fst []
 x.snd.snd.fst).fst
 a []).fst)
 (allI (newI x.fst x.snd.fst).fst) =
 true →
 True ∧ true = true) ∧
 (sameL
 (allI
 (spliceI
 (spliceI (newI x.fst x.snd.fst).fst []
 x.snd.snd.fst).fst
 a []).fst)
 (allI (newI x.fst x.snd.fst).fst) =
 false →
 false = true)) ∧
 (Option.isSome
 (spliceI
 (spliceI (newI x.fst x.snd.fst).fst []
 x.snd.snd.fst).fst
 a []).fst =
 false →
 false = true)) ∧
 (((spliceI
 (spliceI (newI x.fst x.snd.fst).fst []
 x.snd.snd.fst).fst
 a []).snd.fst ==
 (0 : Int)) =
 false →
 false = true))))))))
theorem vcEq4 : fnVC E4 Tryd.f4 (bodyOf Tryd.f4) cInlaysBack = vc4 := by kernel_rfl
/- fn 5 -/
def hs5 : List (Nat × Nat × Hint) := [(0, 14, ⟨[.slot 83 t3], [11, 12, 81, 82], [], []⟩),
  (0, 17, ⟨[.slot 92 t3], [11, 12, 14, 81, 82, 83, 90, 91], [14], []⟩),
  (0, 22, ⟨[.slot 17 t3, .slot 18 t3, .slot 98 t3], [11, 12, 14, 16, 81, 82, 83, 90, 91, 92, 96, 97], [14, 16], []⟩)]
def nm5 : List Nat := [3000000025]
noncomputable def E5 : Env := env tab [(8, cLong), (9, cThree), (10, cNew), (11, cRefNew), (19, cShift), (21, cChanges), (20, cRefShift), (18, cAll)] [] gl hs5 nm5
def vc5 : Prop :=
 ∀
 (x :
 Int ×
 List Inl × List Chg × Unit),
 List.length x.snd.fst ≤ maxLen ∧ List.length x.snd.snd.fst ≤ maxLen →
 List.length x.snd.fst ≤ maxLen ∧
 (longI x.snd.fst = true → True ∧ true = true) ∧
 (longI x.snd.fst = false →
 (decide ((↑(List.length x.snd.snd.fst) : Int) > (100 : Int)) = true → True ∧ true = true) ∧
 (decide ((↑(List.length x.snd.snd.fst) : Int) > (100 : Int)) = false →
 (List.length x.snd.fst ≤ maxLen ∧ shortL x.snd.fst) ∧
 (((newI x.fst x.snd.fst).snd.fst != (0 : Int)) = true →
 (List.length x.snd.fst ≤ maxLen ∧ shortL x.snd.fst) ∧
 (((newW x.fst x.snd.fst).snd.snd.fst != (0 : Int)) = true → True ∧ true = true) ∧
 (((newW x.fst x.snd.fst).snd.snd.fst != (0 : Int)) = false → false = true)) ∧
 (((newI x.fst x.snd.fst).snd.fst != (0 : Int)) = false →
 (Option.isNone (newI x.fst x.snd.fst).fst = true →
 (List.length x.snd.fst ≤ maxLen ∧ shortL x.snd.fst) ∧
 (((newW x.fst x.snd.fst).snd.snd.fst != (0 : Int)) = true → True ∧ true = true) ∧
 (((newW x.fst x.snd.fst).snd.snd.fst != (0 : Int)) = false → false = true)) ∧
 (Option.isNone (newI x.fst x.snd.fst).fst = false →
 (okI (newI x.fst x.snd.fst).fst ∧ List.length x.snd.snd.fst ≤ (1000 : Nat)) ∧
 (((shiftI (newI x.fst x.snd.fst).fst x.snd.snd.fst).snd.fst != (0 : Int)) = true →
 (List.length x.snd.fst ≤ maxLen ∧ shortL x.snd.fst) ∧
 List.length x.snd.snd.fst ≤ (1000000000 : Nat) ∧
 (okW (newW x.fst x.snd.fst) ∧
 (∀ (m : Ty.den t42),
 m ∈
 (cRefNew.fn (x.fst, x.snd.fst, ()), cChanges.fn (x.snd.snd.fst, ()),
 ()).fst.snd.fst →
 (0 : Int) ≤ m.snd.fst ∧ m.snd.fst ≤ (1099511627776 : Int)) ∧
 List.length x.snd.snd.fst ≤ (1000 : Nat)) ∧
 (((shiftW (newW x.fst x.snd.fst) x.snd.snd.fst).snd.snd.fst != (0 : Int)) = true →
 True ∧ true = true) ∧
 (((shiftW (newW x.fst x.snd.fst) x.snd.snd.fst).snd.snd.fst != (0 : Int)) =
 false →
 false = true)) ∧
 (((shiftI (newI x.fst x.snd.fst).fst x.snd.snd.fst).snd.fst != (0 : Int)) = false →
 (Option.isNone (shiftI (newI x.fst x.snd.fst).fst x.snd.snd.fst).fst = true →
 (List.length x.snd.fst ≤ maxLen ∧ shortL x.snd.fst) ∧
 List.length x.snd.snd.fst ≤ (1000000000 : Nat) ∧
 (okW (newW x.fst x.snd.fst) ∧
 (∀ (m : Ty.den t42),
 m ∈
 (cRefNew.fn (x.fst, x.snd.fst, ()), cChanges.fn (x.snd.snd.fst, ()),
 ()).fst.snd.fst →
 (0 : Int) ≤ m.snd.fst ∧ m.snd.fst ≤ (1099511627776 : Int)) ∧
 List.length x.snd.snd.fst ≤ (1000 : Nat)) ∧
 (((shiftW (newW x.fst x.snd.fst) x.snd.snd.fst).snd.snd.fst != (0 : Int)) =
 true →
 True ∧ true = true) ∧
 (((shiftW (newW x.fst x.snd.fst) x.snd.snd.fst).snd.snd.fst != (0 : Int)) =
 false →
 false = true)) ∧
 (Option.isNone (shiftI (newI x.fst x.snd.fst).fst x.snd.snd.fst).fst = false →
 List.length (allI (newI x.fst x.snd.fst).fst) ≤ (10000 : Nat) ∧
 List.length (allI (shiftI (newI x.fst x.snd.fst).fst x.snd.snd.fst).fst) ≤
 (10000 : Nat) ∧
 (((↑(List.length (allI (newI x.fst x.snd.fst).fst)) : Int) !=
 (↑(List.length
 (allI (shiftI (newI x.fst x.snd.fst).fst x.snd.snd.fst).fst)) :
 Int)) =
 true →
 false = true) ∧
 (((↑(List.length (allI (newI x.fst x.snd.fst).fst)) : Int) !=
 (↑(List.length
 (allI (shiftI (newI x.fst x.snd.fst).fst x.snd.snd.fst).fst)) :
 Int)) =
 false →
 ((0 : Int) = (0 : Int) ∧
 allI (newI x.fst x.snd.fst).fst = allI (newI x.fst x.snd.fst).fst ∧
 allI (shiftI (newI x.fst x.snd.fst).fst x.snd.snd.fst).fst =
 allI (shiftI (newI x.fst x.snd.fst).fst x.snd.snd.fst).fst ∧
 allI (newI x.fst x.snd.fst).fst = allI (newI x.fst x.snd.fst).fst ∧
 (↑(List.length (allI (newI x.fst x.snd.fst).fst)) : Int) =
 (↑(List.length (allI (newI x.fst x.snd.fst).fst)) : Int)) ∧
 ∃ (Z : Int × Unit → Prop),
 ∃ (μ : Int × Unit → Nat),
 Z ((0 : Int), ()) ∧
 ∀ (a : Int),
 Z (a, ()) →
 (decide
 (a <
 (↑(List.length (allI (newI x.fst x.snd.fst).fst)) :
 Int)) =
 true →
 ((0 : Int) ≤ a ∧
 a <
 (↑(List.length (allI (newI x.fst x.snd.fst).fst)) :
 Int)) ∧
 ((0 : Int) ≤ a ∧
 a ≤
 (↑(List.length (allI (newI x.fst x.snd.fst).fst)) :
 Int)) ∧
 (((0 : Int) = (0 : Int) ∧
 allI (newI x.fst x.snd.fst).fst =
 allI (newI x.fst x.snd.fst).fst ∧
 allI
 (shiftI (newI x.fst x.snd.fst).fst
 x.snd.snd.fst).fst =
 allI
 (shiftI (newI x.fst x.snd.fst).fst
 x.snd.snd.fst).fst ∧
 True ∧
 allI (newI x.fst x.snd.fst).fst =
 allI (newI x.fst x.snd.fst).fst ∧
 (↑(List.length
 (allI
 (newI x.fst x.snd.fst).fst)) :
 Int) =
 (↑(List.length
 (allI
 (newI x.fst x.snd.fst).fst)) :
 Int) ∧
 a = a ∧
 List.take (Int.toNat a)
 (allI
 (newI x.fst x.snd.fst).fst) =
 List.take (Int.toNat a)
 (allI
 (newI x.fst x.snd.fst).fst) ∧
 (↑(List.length
 (List.take (Int.toNat a)
 (allI
 (newI x.fst
 x.snd.fst).fst))) :
 Int) =
 (↑(List.length
 (List.take (Int.toNat a)
 (allI
 (newI x.fst
 x.snd.fst).fst))) :
 Int)) ∧
 (List.getD (allI (newI x.fst x.snd.fst).fst)
 (Int.toNat a) (Ty.dflt t42)).fst =
 (List.getD (allI (newI x.fst x.snd.fst).fst)
 (Int.toNat a) (Ty.dflt t42)).fst ∧
 (List.getD (allI (newI x.fst x.snd.fst).fst)
 (Int.toNat a) (Ty.dflt t42)).snd.fst =
 (List.getD (allI (newI x.fst x.snd.fst).fst)
 (Int.toNat a) (Ty.dflt t42)).snd.fst ∧
 (List.getD (allI (newI x.fst x.snd.fst).fst)
 (Int.toNat a)
 (Ty.dflt t42)).snd.snd.fst =
 (List.getD (allI (newI x.fst x.snd.fst).fst)
 (Int.toNat a)
 (Ty.dflt t42)).snd.snd.fst ∧
 (List.getD (allI (newI x.fst x.snd.fst).fst)
 (Int.toNat a)
 (Ty.dflt t42)).snd.snd.snd.fst =
 (List.getD (allI (newI x.fst x.snd.fst).fst)
 (Int.toNat a)
 (Ty.dflt t42)).snd.snd.snd.fst ∧
 (List.getD (allI (newI x.fst x.snd.fst).fst)
 (Int.toNat a)
 (Ty.dflt
 t42)).snd.snd.snd.snd.fst =
 (List.getD (allI (newI x.fst x.snd.fst).fst)
 (Int.toNat a)
 (Ty.dflt
 t42)).snd.snd.snd.snd.fst) ∧
 ∃ (Z_1 : Int × Unit → Prop),
 ∃ (μ_1 : Int × Unit → Nat),
 Z_1 ((0 : Int), ()) ∧
 ∀ (a_3 : Int),
 Z_1 (a_3, ()) →
 (decide
 (a_3 <
 (↑(List.length
 (List.take (Int.toNat a)
 (allI
 (newI x.fst
 x.snd.fst).fst))) :
 Int)) =
 true →
 ((0 : Int) ≤ a_3 ∧
 a_3 <
 (↑(List.length
 (List.take (Int.toNat a)
 (allI
 (newI x.fst
 x.snd.fst).fst))) :
 Int)) ∧
 (((0 : Int) = (0 : Int) ∧
 (-1 : Int) = (-1 : Int) ∧
 (-1 : Int) = (-1 : Int) ∧
 allI
 (newI x.fst
 x.snd.fst).fst =
 allI
 (newI x.fst
 x.snd.fst).fst ∧
 allI
 (shiftI
 (newI x.fst
 x.snd.fst).fst
 x.snd.snd.fst).fst =
 allI
 (shiftI
 (newI x.fst
 x.snd.fst).fst
 x.snd.snd.fst).fst ∧
 True ∧
 True ∧
 allI
 (newI x.fst
 x.snd.fst).fst =
 allI
 (newI x.fst
 x.snd.fst).fst ∧
 (↑(List.length
 (allI
 (newI
 x.fst
 x.snd.fst).fst)) :
 Int) =
 (↑(List.length
 (allI
 (newI
 x.fst
 x.snd.fst).fst)) :
 Int) ∧
 a = a ∧
 List.take
 (Int.toNat
 a)
 (allI
 (newI
 x.fst
 x.snd.fst).fst) =
 List.take
 (Int.toNat
 a)
 (allI
 (newI
 x.fst
 x.snd.fst).fst) ∧
 (↑(List.length
 (List.take
 (Int.toNat
 a)
 (allI
 (newI
 x.fst
 x.snd.fst).fst))) :
 Int) =
 (↑(List.length
 (List.take
 (Int.toNat
 a)
 (allI
 (newI
 x.fst
 x.snd.fst).fst))) :
 Int) ∧
 a_3 = a_3 ∧
 allI
 (shiftI
 (newI
 x.fst
 x.snd.fst).fst
 x.snd.snd.fst).fst =
 allI
 (shiftI
 (newI
 x.fst
 x.snd.fst).fst
 x.snd.snd.fst).fst ∧
 (↑(List.length
 (allI
 (shiftI
 (newI
 x.fst
 x.snd.fst).fst
 x.snd.snd.fst).fst)) :
 Int) =
 (↑(List.length
 (allI
 (shiftI
 (newI
 x.fst
 x.snd.fst).fst
 x.snd.snd.fst).fst)) :
 Int)) ∧
 ((List.getD
 (allI
 (newI x.fst
 x.snd.fst).fst)
 (Int.toNat a)
 (Ty.dflt t42)).fst =
 (List.getD
 (allI
 (newI x.fst
 x.snd.fst).fst)
 (Int.toNat a)
 (Ty.dflt t42)).fst ∧
 (List.getD
 (allI
 (newI x.fst
 x.snd.fst).fst)
 (Int.toNat a)
 (Ty.dflt
 t42)).snd.fst =
 (List.getD
 (allI
 (newI x.fst
 x.snd.fst).fst)
 (Int.toNat a)
 (Ty.dflt
 t42)).snd.fst ∧
 (List.getD
 (allI
 (newI x.fst
 x.snd.fst).fst)
 (Int.toNat a)
 (Ty.dflt
 t42)).snd.snd.fst =
 (List.getD
 (allI
 (newI x.fst
 x.snd.fst).fst)
 (Int.toNat a)
 (Ty.dflt
 t42)).snd.snd.fst ∧
 (List.getD
 (allI
 (newI x.fst
 x.snd.fst).fst)
 (Int.toNat a)
 (Ty.dflt
 t42)).snd.snd.snd.fst =
 (List.getD
 (allI
 (newI x.fst
 x.snd.fst).fst)
 (Int.toNat a)
 (Ty.dflt
 t42)).snd.snd.snd.fst ∧
 (List.getD
 (allI
 (newI
 x.fst
 x.snd.fst).fst)
 (Int.toNat
 a)
 (Ty.dflt
 t42)).snd.snd.snd.snd.fst =
 (List.getD
 (allI
 (newI
 x.fst
 x.snd.fst).fst)
 (Int.toNat
 a)
 (Ty.dflt
 t42)).snd.snd.snd.snd.fst) ∧
 (List.getD
 (List.take (Int.toNat a)
 (allI
 (newI x.fst
 x.snd.fst).fst))
 (Int.toNat a_3)
 (Ty.dflt t42)).fst =
 (List.getD
 (List.take (Int.toNat a)
 (allI
 (newI x.fst
 x.snd.fst).fst))
 (Int.toNat a_3)
 (Ty.dflt t42)).fst ∧
 (List.getD
 (List.take
 (Int.toNat a)
 (allI
 (newI x.fst
 x.snd.fst).fst))
 (Int.toNat a_3)
 (Ty.dflt
 t42)).snd.fst =
 (List.getD
 (List.take
 (Int.toNat a)
 (allI
 (newI x.fst
 x.snd.fst).fst))
 (Int.toNat a_3)
 (Ty.dflt
 t42)).snd.fst ∧
 (List.getD
 (List.take
 (Int.toNat a)
 (allI
 (newI x.fst
 x.snd.fst).fst))
 (Int.toNat a_3)
 (Ty.dflt
 t42)).snd.snd.fst =
 (List.getD
 (List.take
 (Int.toNat a)
 (allI
 (newI x.fst
 x.snd.fst).fst))
 (Int.toNat a_3)
 (Ty.dflt
 t42)).snd.snd.fst ∧
 (List.getD
 (List.take
 (Int.toNat
 a)
 (allI
 (newI
 x.fst
 x.snd.fst).fst))
 (Int.toNat
 a_3)
 (Ty.dflt
 t42)).snd.snd.snd.fst =
 (List.getD
 (List.take
 (Int.toNat
 a)
 (allI
 (newI
 x.fst
 x.snd.fst).fst))
 (Int.toNat
 a_3)
 (Ty.dflt
 t42)).snd.snd.snd.fst ∧
 (List.getD
 (List.take
 (Int.toNat
 a)
 (allI
 (newI
 x.fst
 x.snd.fst).fst))
 (Int.toNat
 a_3)
 (Ty.dflt
 t42)).snd.snd.snd.snd.fst =
 (List.getD
 (List.take
 (Int.toNat
 a)
 (allI
 (newI
 x.fst
 x.snd.fst).fst))
 (Int.toNat
 a_3)
 (Ty.dflt
 t42)).snd.snd.snd.snd.fst) ∧
 ∃ (Z : Int × Int × Int × Unit → Prop),
 ∃ (μ :
 Int × Int × Int × Unit → Nat),
 Z
 ((-1 : Int), (-1 : Int),
 (0 : Int), ()) ∧
 ∀ (a_6 a_7 a_8 : Int),
 Z (a_6, a_7, a_8, ()) →
 (decide
 (a_8 <
 (↑(List.length
 (allI
 (shiftI
 (newI
 x.fst
 x.snd.fst).fst
 x.snd.snd.fst).fst)) :
 Int)) =
 true →
 ((0 : Int) ≤ a_8 ∧
 a_8 <
 (↑(List.length
 (allI
 (shiftI
 (newI
 x.fst
 x.snd.fst).fst
 x.snd.snd.fst).fst)) :
 Int)) ∧
 (((List.getD
 (allI
 (shiftI
 (newI
 x.fst
 x.snd.fst).fst
 x.snd.snd.fst).fst)
 (Int.toNat
 a_8)
 (Ty.dflt
 t42)).fst ==
 (List.getD
 (allI
 (newI
 x.fst
 x.snd.fst).fst)
 (Int.toNat
 a)
 (Ty.dflt
 t42)).fst) =
 true →
 (((List.getD
 (allI
 (shiftI
 (newI
 x.fst
 x.snd.fst).fst
 x.snd.snd.fst).fst)
 (Int.toNat
 a_8)
 (Ty.dflt
 t42)).fst ==
 (List.getD
 (List.take
 (Int.toNat
 a)
 (allI
 (newI
 x.fst
 x.snd.fst).fst))
 (Int.toNat
 a_3)
 (Ty.dflt
 t42)).fst) =
 true →
 ((IntKind.wrap
 IntKind.i64
 (a_8 +
 (1 :
 Int)) =
 IntKind.wrap
 IntKind.i64
 (a_8 +
 (1 :
 Int)) ∧
 a_8 =
 a_8 ∧
 a_8 =
 a_8 ∧
 allI
 (newI
 x.fst
 x.snd.fst).fst =
 allI
 (newI
 x.fst
 x.snd.fst).fst ∧
 allI
 (shiftI
 (newI
 x.fst
 x.snd.fst).fst
 x.snd.snd.fst).fst =
 allI
 (shiftI
 (newI
 x.fst
 x.snd.fst).fst
 x.snd.snd.fst).fst ∧
 True ∧
 True ∧
 allI
 (newI
 x.fst
 x.snd.fst).fst =
 allI
 (newI
 x.fst
 x.snd.fst).fst ∧
 (↑(List.length
 (allI
 (newI
 x.fst
 x.snd.fst).fst)) :
 Int) =
 (↑(List.length
 (allI
 (newI
 x.fst
 x.snd.fst).fst)) :
 Int) ∧
 a =
 a ∧
 List.take
 (Int.toNat
 a)
 (allI
 (newI
 x.fst
 x.snd.fst).fst) =
 List.take
 (Int.toNat
 a)
 (allI
 (newI
 x.fst
 x.snd.fst).fst) ∧
 (↑(List.length
 (List.take
 (Int.toNat
 a)
 (allI
 (newI
 x.fst
 x.snd.fst).fst))) :
 Int) =
 (↑(List.length
 (List.take
 (Int.toNat
 a)
 (allI
 (newI
 x.fst
 x.snd.fst).fst))) :
 Int) ∧
 a_3 =
 a_3 ∧
 allI
 (shiftI
 (newI
 x.fst
 x.snd.fst).fst
 x.snd.snd.fst).fst =
 allI
 (shiftI
 (newI
 x.fst
 x.snd.fst).fst
 x.snd.snd.fst).fst ∧
 (↑(List.length
 (allI
 (shiftI
 (newI
 x.fst
 x.snd.fst).fst
 x.snd.snd.fst).fst)) :
 Int) =
 (↑(List.length
 (allI
 (shiftI
 (newI
 x.fst
 x.snd.fst).fst
 x.snd.snd.fst).fst)) :
 Int)) ∧
 ((List.getD
 (allI
 (newI
 x.fst
 x.snd.fst).fst)
 (Int.toNat
 a)
 (Ty.dflt
 t42)).fst =
 (List.getD
 (allI
 (newI
 x.fst
 x.snd.fst).fst)
 (Int.toNat
 a)
 (Ty.dflt
 t42)).fst ∧
 (List.getD
 (allI
 (newI
 x.fst
 x.snd.fst).fst)
 (Int.toNat
 a)
 (Ty.dflt
 t42)).snd.fst =
 (List.getD
 (allI
 (newI
 x.fst
 x.snd.fst).fst)
 (Int.toNat
 a)
 (Ty.dflt
 t42)).snd.fst ∧
 (List.getD
 (allI
 (newI
 x.fst
 x.snd.fst).fst)
 (Int.toNat
 a)
 (Ty.dflt
 t42)).snd.snd.fst =
 (List.getD
 (allI
 (newI
 x.fst
 x.snd.fst).fst)
 (Int.toNat
 a)
 (Ty.dflt
 t42)).snd.snd.fst ∧
 (List.getD
 (allI
 (newI
 x.fst
 x.snd.fst).fst)
 (Int.toNat
 a)
 (Ty.dflt
 t42)).snd.snd.snd.fst =
 (List.getD
 (allI
 (newI
 x.fst
 x.snd.fst).fst)
 (Int.toNat
 a)
 (Ty.dflt
 t42)).snd.snd.snd.fst ∧
 (List.getD
 (allI
 (newI
 x.fst
 x.snd.fst).fst)
 (Int.toNat
 a)
 (Ty.dflt
 t42)).snd.snd.snd.snd.fst =
 (List.getD
 (allI
 (newI
 x.fst
 x.snd.fst).fst)
 (Int.toNat
 a)
 (Ty.dflt
 t42)).snd.snd.snd.snd.fst) ∧
 (List.getD
 (List.take
 (Int.toNat
 a)
 (allI
 (newI
 x.fst
 x.snd.fst).fst))
 (Int.toNat
 a_3)
 (Ty.dflt
 t42)).fst =
 (List.getD
 (List.take
 (Int.toNat
 a)
 (allI
 (newI
 x.fst
 x.snd.fst).fst))
 (Int.toNat
 a_3)
 (Ty.dflt
 t42)).fst ∧
 (List.getD
 (List.take
 (Int.toNat
 a)
 (allI
 (newI
 x.fst
 x.snd.fst).fst))
 (Int.toNat
 a_3)
 (Ty.dflt
 t42)).snd.fst =
 (List.getD
 (List.take
 (Int.toNat
 a)
 (allI
 (newI
 x.fst
 x.snd.fst).fst))
 (Int.toNat
 a_3)
 (Ty.dflt
 t42)).snd.fst ∧
 (List.getD
 (List.take
 (Int.toNat
 a)
 (allI
 (newI
 x.fst
 x.snd.fst).fst))
 (Int.toNat
 a_3)
 (Ty.dflt
 t42)).snd.snd.fst =
 (List.getD
 (List.take
 (Int.toNat
 a)
 (allI
 (newI
 x.fst
 x.snd.fst).fst))
 (Int.toNat
 a_3)
 (Ty.dflt
 t42)).snd.snd.fst ∧
 (List.getD
 (List.take
 (Int.toNat
 a)
 (allI
 (newI
 x.fst
 x.snd.fst).fst))
 (Int.toNat
 a_3)
 (Ty.dflt
 t42)).snd.snd.snd.fst =
 (List.getD
 (List.take
 (Int.toNat
 a)
 (allI
 (newI
 x.fst
 x.snd.fst).fst))
 (Int.toNat
 a_3)
 (Ty.dflt
 t42)).snd.snd.snd.fst ∧
 (List.getD
 (List.take
 (Int.toNat
 a)
 (allI
 (newI
 x.fst
 x.snd.fst).fst))
 (Int.toNat
 a_3)
 (Ty.dflt
 t42)).snd.snd.snd.snd.fst =
 (List.getD
 (List.take
 (Int.toNat
 a)
 (allI
 (newI
 x.fst
 x.snd.fst).fst))
 (Int.toNat
 a_3)
 (Ty.dflt
 t42)).snd.snd.snd.snd.fst) ∧
 Z
 (a_8,
 a_8,
 IntKind.wrap
 IntKind.i64
 (a_8 +
 (1 :
 Int)),
 ()) ∧
 μ
 (a_8,
 a_8,
 IntKind.wrap
 IntKind.i64
 (a_8 +
 (1 :
 Int)),
 ()) <
 μ
 (a_6,
 a_7,
 a_8,
 ())) ∧
 (((List.getD
 (allI
 (shiftI
 (newI
 x.fst
 x.snd.fst).fst
 x.snd.snd.fst).fst)
 (Int.toNat
 a_8)
 (Ty.dflt
 t42)).fst ==
 (List.getD
 (List.take
 (Int.toNat
 a)
 (allI
 (newI
 x.fst
 x.snd.fst).fst))
 (Int.toNat
 a_3)
 (Ty.dflt
 t42)).fst) =
 false →
 ((IntKind.wrap
 IntKind.i64
 (a_8 +
 (1 :
 Int)) =
 IntKind.wrap
 IntKind.i64
 (a_8 +
 (1 :
 Int)) ∧
 a_7 =
 a_7 ∧
 a_8 =
 a_8 ∧
 allI
 (newI
 x.fst
 x.snd.fst).fst =
 allI
 (newI
 x.fst
 x.snd.fst).fst ∧
 allI
 (shiftI
 (newI
 x.fst
 x.snd.fst).fst
 x.snd.snd.fst).fst =
 allI
 (shiftI
 (newI
 x.fst
 x.snd.fst).fst
 x.snd.snd.fst).fst ∧
 True ∧
 True ∧
 allI
 (newI
 x.fst
 x.snd.fst).fst =
 allI
 (newI
 x.fst
 x.snd.fst).fst ∧
 (↑(List.length
 (allI
 (newI
 x.fst
 x.snd.fst).fst)) :
 Int) =
 (↑(List.length
 (allI
 (newI
 x.fst
 x.snd.fst).fst)) :
 Int) ∧
 a =
 a ∧
 List.take
 (Int.toNat
 a)
 (allI
 (newI
 x.fst
 x.snd.fst).fst) =
 List.take
 (Int.toNat
 a)
 (allI
 (newI
 x.fst
 x.snd.fst).fst) ∧
 (↑(List.length
 (List.take
 (Int.toNat
 a)
 (allI
 (newI
 x.fst
 x.snd.fst).fst))) :
 Int) =
 (↑(List.length
 (List.take
 (Int.toNat
 a)
 (allI
 (newI
 x.fst
 x.snd.fst).fst))) :
 Int) ∧
 a_3 =
 a_3 ∧
 allI
 (shiftI
 (newI
 x.fst
 x.snd.fst).fst
 x.snd.snd.fst).fst =
 allI
 (shiftI
 (newI
 x.fst
 x.snd.fst).fst
 x.snd.snd.fst).fst ∧
 (↑(List.length
 (allI
 (shiftI
 (newI
 x.fst
 x.snd.fst).fst
 x.snd.snd.fst).fst)) :
 Int) =
 (↑(List.length
 (allI
 (shiftI
 (newI
 x.fst
 x.snd.fst).fst
 x.snd.snd.fst).fst)) :
 Int)) ∧
 ((List.getD
 (allI
 (newI
 x.fst
 x.snd.fst).fst)
 (Int.toNat
 a)
 (Ty.dflt
 t42)).fst =
 (List.getD
 (allI
 (newI
 x.fst
 x.snd.fst).fst)
 (Int.toNat
 a)
 (Ty.dflt
 t42)).fst ∧
 (List.getD
 (allI
 (newI
 x.fst
 x.snd.fst).fst)
 (Int.toNat
 a)
 (Ty.dflt
 t42)).snd.fst =
 (List.getD
 (allI
 (newI
 x.fst
 x.snd.fst).fst)
 (Int.toNat
 a)
 (Ty.dflt
 t42)).snd.fst ∧
 (List.getD
 (allI
 (newI
 x.fst
 x.snd.fst).fst)
 (Int.toNat
 a)
 (Ty.dflt
 t42)).snd.snd.fst =
 (List.getD
 (allI
 (newI
 x.fst
 x.snd.fst).fst)
 (Int.toNat
 a)
 (Ty.dflt
 t42)).snd.snd.fst ∧
 (List.getD
 (allI
 (newI
 x.fst
 x.snd.fst).fst)
 (Int.toNat
 a)
 (Ty.dflt
 t42)).snd.snd.snd.fst =
 (List.getD
 (allI
 (newI
 x.fst
 x.snd.fst).fst)
 (Int.toNat
 a)
 (Ty.dflt
 t42)).snd.snd.snd.fst ∧
 (List.getD
 (allI
 (newI
 x.fst
 x.snd.fst).fst)
 (Int.toNat
 a)
 (Ty.dflt
 t42)).snd.snd.snd.snd.fst =
 (List.getD
 (allI
 (newI
 x.fst
 x.snd.fst).fst)
 (Int.toNat
 a)
 (Ty.dflt
 t42)).snd.snd.snd.snd.fst) ∧
 (List.getD
 (List.take
 (Int.toNat
 a)
 (allI
 (newI
 x.fst
 x.snd.fst).fst))
 (Int.toNat
 a_3)
 (Ty.dflt
 t42)).fst =
 (List.getD
 (List.take
 (Int.toNat
 a)
 (allI
 (newI
 x.fst
 x.snd.fst).fst))
 (Int.toNat
 a_3)
 (Ty.dflt
 t42)).fst ∧
 (List.getD
 (List.take
 (Int.toNat
 a)
 (allI
 (newI
 x.fst
 x.snd.fst).fst))
 (Int.toNat
 a_3)
 (Ty.dflt
 t42)).snd.fst =
 (List.getD
 (List.take
 (Int.toNat
 a)
 (allI
 (newI
 x.fst
 x.snd.fst).fst))
 (Int.toNat
 a_3)
 (Ty.dflt
 t42)).snd.fst ∧
 (List.getD
 (List.take
 (Int.toNat
 a)
 (allI
 (newI
 x.fst
 x.snd.fst).fst))
 (Int.toNat
 a_3)
 (Ty.dflt
 t42)).snd.snd.fst =
 (List.getD
 (List.take
 (Int.toNat
 a)
 (allI
 (newI
 x.fst
 x.snd.fst).fst))
 (Int.toNat
 a_3)
 (Ty.dflt
 t42)).snd.snd.fst ∧
 (List.getD
 (List.take
 (Int.toNat
 a)
 (allI
 (newI
 x.fst
 x.snd.fst).fst))
 (Int.toNat
 a_3)
 (Ty.dflt
 t42)).snd.snd.snd.fst =
 (List.getD
 (List.take
 (Int.toNat
 a)
 (allI
 (newI
 x.fst
 x.snd.fst).fst))
 (Int.toNat
 a_3)
 (Ty.dflt
 t42)).snd.snd.snd.fst ∧
 (List.getD
 (List.take
 (Int.toNat
 a)
 (allI
 (newI
 x.fst
 x.snd.fst).fst))
 (Int.toNat
 a_3)
 (Ty.dflt
 t42)).snd.snd.snd.snd.fst =
 (List.getD
 (List.take
 (Int.toNat
 a)
 (allI
 (newI
 x.fst
 x.snd.fst).fst))
 (Int.toNat
 a_3)
 (Ty.dflt
 t42)).snd.snd.snd.snd.fst) ∧
 Z
 (a_8,
 a_7,
 IntKind.wrap
 IntKind.i64
 (a_8 +
 (1 :
 Int)),
 ()) ∧
 μ
 (a_8,
 a_7,
 IntKind.wrap
 IntKind.i64
 (a_8 +
 (1 :
 Int)),
 ()) <
 μ
 (a_6,
 a_7,
 a_8,
 ()))) ∧
 (((List.getD
 (allI
 (shiftI
 (newI
 x.fst
 x.snd.fst).fst
 x.snd.snd.fst).fst)
 (Int.toNat
 a_8)
 (Ty.dflt
 t42)).fst ==
 (List.getD
 (allI
 (newI
 x.fst
 x.snd.fst).fst)
 (Int.toNat
 a)
 (Ty.dflt
 t42)).fst) =
 false →
 (((List.getD
 (allI
 (shiftI
 (newI
 x.fst
 x.snd.fst).fst
 x.snd.snd.fst).fst)
 (Int.toNat
 a_8)
 (Ty.dflt
 t42)).fst ==
 (List.getD
 (List.take
 (Int.toNat
 a)
 (allI
 (newI
 x.fst
 x.snd.fst).fst))
 (Int.toNat
 a_3)
 (Ty.dflt
 t42)).fst) =
 true →
 ((IntKind.wrap
 IntKind.i64
 (a_8 +
 (1 :
 Int)) =
 IntKind.wrap
 IntKind.i64
 (a_8 +
 (1 :
 Int)) ∧
 a_8 =
 a_8 ∧
 a_6 =
 a_6 ∧
 allI
 (newI
 x.fst
 x.snd.fst).fst =
 allI
 (newI
 x.fst
 x.snd.fst).fst ∧
 allI
 (shiftI
 (newI
 x.fst
 x.snd.fst).fst
 x.snd.snd.fst).fst =
 allI
 (shiftI
 (newI
 x.fst
 x.snd.fst).fst
 x.snd.snd.fst).fst ∧
 True ∧
 True ∧
 allI
 (newI
 x.fst
 x.snd.fst).fst =
 allI
 (newI
 x.fst
 x.snd.fst).fst ∧
 (↑(List.length
 (allI
 (newI
 x.fst
 x.snd.fst).fst)) :
 Int) =
 (↑(List.length
 (allI
 (newI
 x.fst
 x.snd.fst).fst)) :
 Int) ∧
 a =
 a ∧
 List.take
 (Int.toNat
 a)
 (allI
 (newI
 x.fst
 x.snd.fst).fst) =
 List.take
 (Int.toNat
 a)
 (allI
 (newI
 x.fst
 x.snd.fst).fst) ∧
 (↑(List.length
 (List.take
 (Int.toNat
 a)
 (allI
 (newI
 x.fst
 x.snd.fst).fst))) :
 Int) =
 (↑(List.length
 (List.take
 (Int.toNat
 a)
 (allI
 (newI
 x.fst
 x.snd.fst).fst))) :
 Int) ∧
 a_3 =
 a_3 ∧
 allI
 (shiftI
 (newI
 x.fst
 x.snd.fst).fst
 x.snd.snd.fst).fst =
 allI
 (shiftI
 (newI
 x.fst
 x.snd.fst).fst
 x.snd.snd.fst).fst ∧
 (↑(List.length
 (allI
 (shiftI
 (newI
 x.fst
 x.snd.fst).fst
 x.snd.snd.fst).fst)) :
 Int) =
 (↑(List.length
 (allI
 (shiftI
 (newI
 x.fst
 x.snd.fst).fst
 x.snd.snd.fst).fst)) :
 Int)) ∧
 ((List.getD
 (allI
 (newI
 x.fst
 x.snd.fst).fst)
 (Int.toNat
 a)
 (Ty.dflt
 t42)).fst =
 (List.getD
 (allI
 (newI
 x.fst
 x.snd.fst).fst)
 (Int.toNat
 a)
 (Ty.dflt
 t42)).fst ∧
 (List.getD
 (allI
 (newI
 x.fst
 x.snd.fst).fst)
 (Int.toNat
 a)
 (Ty.dflt
 t42)).snd.fst =
 (List.getD
 (allI
 (newI
 x.fst
 x.snd.fst).fst)
 (Int.toNat
 a)
 (Ty.dflt
 t42)).snd.fst ∧
 (List.getD
 (allI
 (newI
 x.fst
 x.snd.fst).fst)
 (Int.toNat
 a)
 (Ty.dflt
 t42)).snd.snd.fst =
 (List.getD
 (allI
 (newI
 x.fst
 x.snd.fst).fst)
 (Int.toNat
 a)
 (Ty.dflt
 t42)).snd.snd.fst ∧
 (List.getD
 (allI
 (newI
 x.fst
 x.snd.fst).fst)
 (Int.toNat
 a)
 (Ty.dflt
 t42)).snd.snd.snd.fst =
 (List.getD
 (allI
 (newI
 x.fst
 x.snd.fst).fst)
 (Int.toNat
 a)
 (Ty.dflt
 t42)).snd.snd.snd.fst ∧
 (List.getD
 (allI
 (newI
 x.fst
 x.snd.fst).fst)
 (Int.toNat
 a)
 (Ty.dflt
 t42)).snd.snd.snd.snd.fst =
 (List.getD
 (allI
 (newI
 x.fst
 x.snd.fst).fst)
 (Int.toNat
 a)
 (Ty.dflt
 t42)).snd.snd.snd.snd.fst) ∧
 (List.getD
 (List.take
 (Int.toNat
 a)
 (allI
 (newI
 x.fst
 x.snd.fst).fst))
 (Int.toNat
 a_3)
 (Ty.dflt
 t42)).fst =
 (List.getD
 (List.take
 (Int.toNat
 a)
 (allI
 (newI
 x.fst
 x.snd.fst).fst))
 (Int.toNat
 a_3)
 (Ty.dflt
 t42)).fst ∧
 (List.getD
 (List.take
 (Int.toNat
 a)
 (allI
 (newI
 x.fst
 x.snd.fst).fst))
 (Int.toNat
 a_3)
 (Ty.dflt
 t42)).snd.fst =
 (List.getD
 (List.take
 (Int.toNat
 a)
 (allI
 (newI
 x.fst
 x.snd.fst).fst))
 (Int.toNat
 a_3)
 (Ty.dflt
 t42)).snd.fst ∧
 (List.getD
 (List.take
 (Int.toNat
 a)
 (allI
 (newI
 x.fst
 x.snd.fst).fst))
 (Int.toNat
 a_3)
 (Ty.dflt
 t42)).snd.snd.fst =
 (List.getD
 (List.take
 (Int.toNat
 a)
 (allI
 (newI
 x.fst
 x.snd.fst).fst))
 (Int.toNat
 a_3)
 (Ty.dflt
 t42)).snd.snd.fst ∧
 (List.getD
 (List.take
 (Int.toNat
 a)
 (allI
 (newI
 x.fst
 x.snd.fst).fst))
 (Int.toNat
 a_3)
 (Ty.dflt
 t42)).snd.snd.snd.fst =
 (List.getD
 (List.take
 (Int.toNat
 a)
 (allI
 (newI
 x.fst
 x.snd.fst).fst))
 (Int.toNat
 a_3)
 (Ty.dflt
 t42)).snd.snd.snd.fst ∧
 (List.getD
 (List.take
 (Int.toNat
 a)
 (allI
 (newI
 x.fst
 x.snd.fst).fst))
 (Int.toNat
 a_3)
 (Ty.dflt
 t42)).snd.snd.snd.snd.fst =
 (List.getD
 (List.take
 (Int.toNat
 a)
 (allI
 (newI
 x.fst
 x.snd.fst).fst))
 (Int.toNat
 a_3)
 (Ty.dflt
 t42)).snd.snd.snd.snd.fst) ∧
 Z
 (a_6,
 a_8,
 IntKind.wrap
 IntKind.i64
 (a_8 +
 (1 :
 Int)),
 ()) ∧
 μ
 (a_6,
 a_8,
 IntKind.wrap
 IntKind.i64
 (a_8 +
 (1 :
 Int)),
 ()) <
 μ
 (a_6,
 a_7,
 a_8,
 ())) ∧
 (((List.getD
 (allI
 (shiftI
 (newI
 x.fst
 x.snd.fst).fst
 x.snd.snd.fst).fst)
 (Int.toNat
 a_8)
 (Ty.dflt
 t42)).fst ==
 (List.getD
 (List.take
 (Int.toNat
 a)
 (allI
 (newI
 x.fst
 x.snd.fst).fst))
 (Int.toNat
 a_3)
 (Ty.dflt
 t42)).fst) =
 false →
 ((IntKind.wrap
 IntKind.i64
 (a_8 +
 (1 :
 Int)) =
 IntKind.wrap
 IntKind.i64
 (a_8 +
 (1 :
 Int)) ∧
 a_7 =
 a_7 ∧
 a_6 =
 a_6 ∧
 allI
 (newI
 x.fst
 x.snd.fst).fst =
 allI
 (newI
 x.fst
 x.snd.fst).fst ∧
 allI
 (shiftI
 (newI
 x.fst
 x.snd.fst).fst
 x.snd.snd.fst).fst =
 allI
 (shiftI
 (newI
 x.fst
 x.snd.fst).fst
 x.snd.snd.fst).fst ∧
 True ∧
 True ∧
 allI
 (newI
 x.fst
 x.snd.fst).fst =
 allI
 (newI
 x.fst
 x.snd.fst).fst ∧
 (↑(List.length
 (allI
 (newI
 x.fst
 x.snd.fst).fst)) :
 Int) =
 (↑(List.length
 (allI
 (newI
 x.fst
 x.snd.fst).fst)) :
 Int) ∧
 a =
 a ∧
 List.take
 (Int.toNat
 a)
 (allI
 (newI
 x.fst
 x.snd.fst).fst) =
 List.take
 (Int.toNat
 a)
 (allI
 (newI
 x.fst
 x.snd.fst).fst) ∧
 (↑(List.length
 (List.take
 (Int.toNat
 a)
 (allI
 (newI
 x.fst
 x.snd.fst).fst))) :
 Int) =
 (↑(List.length
 (List.take
 (Int.toNat
 a)
 (allI
 (newI
 x.fst
 x.snd.fst).fst))) :
 Int) ∧
 a_3 =
 a_3 ∧
 allI
 (shiftI
 (newI
 x.fst
 x.snd.fst).fst
 x.snd.snd.fst).fst =
 allI
 (shiftI
 (newI
 x.fst
 x.snd.fst).fst
 x.snd.snd.fst).fst ∧
 (↑(List.length
 (allI
 (shiftI
 (newI
 x.fst
 x.snd.fst).fst
 x.snd.snd.fst).fst)) :
 Int) =
 (↑(List.length
 (allI
 (shiftI
 (newI
 x.fst
 x.snd.fst).fst
 x.snd.snd.fst).fst)) :
 Int)) ∧
 ((List.getD
 (allI
 (newI
 x.fst
 x.snd.fst).fst)
 (Int.toNat
 a)
 (Ty.dflt
 t42)).fst =
 (List.getD
 (allI
 (newI
 x.fst
 x.snd.fst).fst)
 (Int.toNat
 a)
 (Ty.dflt
 t42)).fst ∧
 (List.getD
 (allI
 (newI
 x.fst
 x.snd.fst).fst)
 (Int.toNat
 a)
 (Ty.dflt
 t42)).snd.fst =
 (List.getD
 (allI
 (newI
 x.fst
 x.snd.fst).fst)
 (Int.toNat
 a)
 (Ty.dflt
 t42)).snd.fst ∧
 (List.getD
 (allI
 (newI
 x.fst
 x.snd.fst).fst)
 (Int.toNat
 a)
 (Ty.dflt
 t42)).snd.snd.fst =
 (List.getD
 (allI
 (newI
 x.fst
 x.snd.fst).fst)
 (Int.toNat
 a)
 (Ty.dflt
 t42)).snd.snd.fst ∧
 (List.getD
 (allI
 (newI
 x.fst
 x.snd.fst).fst)
 (Int.toNat
 a)
 (Ty.dflt
 t42)).snd.snd.snd.fst =
 (List.getD
 (allI
 (newI
 x.fst
 x.snd.fst).fst)
 (Int.toNat
 a)
 (Ty.dflt
 t42)).snd.snd.snd.fst ∧
 (List.getD
 (allI
 (newI
 x.fst
 x.snd.fst).fst)
 (Int.toNat
 a)
 (Ty.dflt
 t42)).snd.snd.snd.snd.fst =
 (List.getD
 (allI
 (newI
 x.fst
 x.snd.fst).fst)
 (Int.toNat
 a)
 (Ty.dflt
 t42)).snd.snd.snd.snd.fst) ∧
 (List.getD
 (List.take
 (Int.toNat
 a)
 (allI
 (newI
 x.fst
 x.snd.fst).fst))
 (Int.toNat
 a_3)
 (Ty.dflt
 t42)).fst =
 (List.getD
 (List.take
 (Int.toNat
 a)
 (allI
 (newI
 x.fst
 x.snd.fst).fst))
 (Int.toNat
 a_3)
 (Ty.dflt
 t42)).fst ∧
 (List.getD
 (List.take
 (Int.toNat
 a)
 (allI
 (newI
 x.fst
 x.snd.fst).fst))
 (Int.toNat
 a_3)
 (Ty.dflt
 t42)).snd.fst =
 (List.getD
 (List.take
 (Int.toNat
 a)
 (allI
 (newI
 x.fst
 x.snd.fst).fst))
 (Int.toNat
 a_3)
 (Ty.dflt
 t42)).snd.fst ∧
 (List.getD
 (List.take
 (Int.toNat
 a)
 (allI
 (newI
 x.fst
 x.snd.fst).fst))
 (Int.toNat
 a_3)
 (Ty.dflt
 t42)).snd.snd.fst =
 (List.getD
 (List.take
 (Int.toNat
 a)
 (allI
 (newI
 x.fst
 x.snd.fst).fst))
 (Int.toNat
 a_3)
 (Ty.dflt
 t42)).snd.snd.fst ∧
 (List.getD
 (List.take
 (Int.toNat
 a)
 (allI
 (newI
 x.fst
 x.snd.fst).fst))
 (Int.toNat
 a_3)
 (Ty.dflt
 t42)).snd.snd.snd.fst =
 (List.getD
 (List.take
 (Int.toNat
 a)
 (allI
 (newI
 x.fst
 x.snd.fst).fst))
 (Int.toNat
 a_3)
 (Ty.dflt
 t42)).snd.snd.snd.fst ∧
 (List.getD
 (List.take
 (Int.toNat
 a)
 (allI
 (newI
 x.fst
 x.snd.fst).fst))
 (Int.toNat
 a_3)
 (Ty.dflt
 t42)).snd.snd.snd.snd.fst =
 (List.getD
 (List.take
 (Int.toNat
 a)
 (allI
 (newI
 x.fst
 x.snd.fst).fst))
 (Int.toNat
 a_3)
 (Ty.dflt
 t42)).snd.snd.snd.snd.fst) ∧
 Z
 (a_6,
 a_7,
 IntKind.wrap
 IntKind.i64
 (a_8 +
 (1 :
 Int)),
 ()) ∧
 μ
 (a_6,
 a_7,
 IntKind.wrap
 IntKind.i64
 (a_8 +
 (1 :
 Int)),
 ()) <
 μ
 (a_6,
 a_7,
 a_8,
 ())))) ∧
 (decide
 (a_8 <
 (↑(List.length
 (allI
 (shiftI
 (newI
 x.fst
 x.snd.fst).fst
 x.snd.snd.fst).fst)) :
 Int)) =
 false →
 (decide
 (a_6 <
 (0 : Int)) =
 true →
 false = true) ∧
 (decide
 (a_6 <
 (0 : Int)) =
 false →
 (decide
 (a_7 <
 (0 :
 Int)) =
 true →
 false = true) ∧
 (decide
 (a_7 <
 (0 :
 Int)) =
 false →
 (((List.getD
 (allI
 (newI
 x.fst
 x.snd.fst).fst)
 (Int.toNat
 a)
 (Ty.dflt
 t42)).snd.fst ==
 (List.getD
 (List.take
 (Int.toNat
 a)
 (allI
 (newI
 x.fst
 x.snd.fst).fst))
 (Int.toNat
 a_3)
 (Ty.dflt
 t42)).snd.fst) =
 true →
 (((List.getD
 (allI
 (newI
 x.fst
 x.snd.fst).fst)
 (Int.toNat
 a)
 (Ty.dflt
 t42)).snd.snd.fst ==
 (List.getD
 (List.take
 (Int.toNat
 a)
 (allI
 (newI
 x.fst
 x.snd.fst).fst))
 (Int.toNat
 a_3)
 (Ty.dflt
 t42)).snd.snd.fst) =
 true →
 (decide
 (a_7 >
 a_6) =
 true →
 false =
 true) ∧
 (decide
 (a_7 >
 a_6) =
 false →
 ((0 :
 Int) ≤
 a_6 ∧
 a_6 <
 (↑(List.length
 (allI
 (shiftI
 (newI
 x.fst
 x.snd.fst).fst
 x.snd.snd.fst).fst)) :
 Int)) ∧
 ((0 :
 Int) ≤
 a_7 ∧
 a_7 <
 (↑(List.length
 (allI
 (shiftI
 (newI
 x.fst
 x.snd.fst).fst
 x.snd.snd.fst).fst)) :
 Int)) ∧
 (((List.getD
 (allI
 (shiftI
 (newI
 x.fst
 x.snd.fst).fst
 x.snd.snd.fst).fst)
 (Int.toNat
 a_6)
 (Ty.dflt
 t42)).snd.fst !=
 (List.getD
 (allI
 (shiftI
 (newI
 x.fst
 x.snd.fst).fst
 x.snd.snd.fst).fst)
 (Int.toNat
 a_7)
 (Ty.dflt
 t42)).snd.fst) =
 true →
 false =
 true) ∧
 (((List.getD
 (allI
 (shiftI
 (newI
 x.fst
 x.snd.fst).fst
 x.snd.snd.fst).fst)
 (Int.toNat
 a_6)
 (Ty.dflt
 t42)).snd.fst !=
 (List.getD
 (allI
 (shiftI
 (newI
 x.fst
 x.snd.fst).fst
 x.snd.snd.fst).fst)
 (Int.toNat
 a_7)
 (Ty.dflt
 t42)).snd.fst) =
 false →
 ((IntKind.wrap
 IntKind.i64
 (a_3 +
 (1 :
 Int)) =
 IntKind.wrap
 IntKind.i64
 (a_3 +
 (1 :
 Int)) ∧
 allI
 (newI
 x.fst
 x.snd.fst).fst =
 allI
 (newI
 x.fst
 x.snd.fst).fst ∧
 allI
 (shiftI
 (newI
 x.fst
 x.snd.fst).fst
 x.snd.snd.fst).fst =
 allI
 (shiftI
 (newI
 x.fst
 x.snd.fst).fst
 x.snd.snd.fst).fst ∧
 True ∧
 allI
 (newI
 x.fst
 x.snd.fst).fst =
 allI
 (newI
 x.fst
 x.snd.fst).fst ∧
 (↑(List.length
 (allI
 (newI
 x.fst
 x.snd.fst).fst)) :
 Int) =
 (↑(List.length
 (allI
 (newI
 x.fst
 x.snd.fst).fst)) :
 Int) ∧
 a =
 a ∧
 List.take
 (Int.toNat
 a)
 (allI
 (newI
 x.fst
 x.snd.fst).fst) =
 List.take
 (Int.toNat
 a)
 (allI
 (newI
 x.fst
 x.snd.fst).fst) ∧
 (↑(List.length
 (List.take
 (Int.toNat
 a)
 (allI
 (newI
 x.fst
 x.snd.fst).fst))) :
 Int) =
 (↑(List.length
 (List.take
 (Int.toNat
 a)
 (allI
 (newI
 x.fst
 x.snd.fst).fst))) :
 Int)) ∧
 (List.getD
 (allI
 (newI
 x.fst
 x.snd.fst).fst)
 (Int.toNat
 a)
 (Ty.dflt
 t42)).fst =
 (List.getD
 (allI
 (newI
 x.fst
 x.snd.fst).fst)
 (Int.toNat
 a)
 (Ty.dflt
 t42)).fst ∧
 (List.getD
 (allI
 (newI
 x.fst
 x.snd.fst).fst)
 (Int.toNat
 a)
 (Ty.dflt
 t42)).snd.fst =
 (List.getD
 (allI
 (newI
 x.fst
 x.snd.fst).fst)
 (Int.toNat
 a)
 (Ty.dflt
 t42)).snd.fst ∧
 (List.getD
 (allI
 (newI
 x.fst
 x.snd.fst).fst)
 (Int.toNat
 a)
 (Ty.dflt
 t42)).snd.snd.fst =
 (List.getD
 (allI
 (newI
 x.fst
 x.snd.fst).fst)
 (Int.toNat
 a)
 (Ty.dflt
 t42)).snd.snd.fst ∧
 (List.getD
 (allI
 (newI
 x.fst
 x.snd.fst).fst)
 (Int.toNat
 a)
 (Ty.dflt
 t42)).snd.snd.snd.fst =
 (List.getD
 (allI
 (newI
 x.fst
 x.snd.fst).fst)
 (Int.toNat
 a)
 (Ty.dflt
 t42)).snd.snd.snd.fst ∧
 (List.getD
 (allI
 (newI
 x.fst
 x.snd.fst).fst)
 (Int.toNat
 a)
 (Ty.dflt
 t42)).snd.snd.snd.snd.fst =
 (List.getD
 (allI
 (newI
 x.fst
 x.snd.fst).fst)
 (Int.toNat
 a)
 (Ty.dflt
 t42)).snd.snd.snd.snd.fst) ∧
 Z_1
 (IntKind.wrap
 IntKind.i64
 (a_3 +
 (1 :
 Int)),
 ()) ∧
 μ_1
 (IntKind.wrap
 IntKind.i64
 (a_3 +
 (1 :
 Int)),
 ()) <
 μ_1
 (a_3,
 ())))) ∧
 (((List.getD
 (allI
 (newI
 x.fst
 x.snd.fst).fst)
 (Int.toNat
 a)
 (Ty.dflt
 t42)).snd.snd.fst ==
 (List.getD
 (List.take
 (Int.toNat
 a)
 (allI
 (newI
 x.fst
 x.snd.fst).fst))
 (Int.toNat
 a_3)
 (Ty.dflt
 t42)).snd.snd.fst) =
 false →
 ((IntKind.wrap
 IntKind.i64
 (a_3 +
 (1 :
 Int)) =
 IntKind.wrap
 IntKind.i64
 (a_3 +
 (1 :
 Int)) ∧
 allI
 (newI
 x.fst
 x.snd.fst).fst =
 allI
 (newI
 x.fst
 x.snd.fst).fst ∧
 allI
 (shiftI
 (newI
 x.fst
 x.snd.fst).fst
 x.snd.snd.fst).fst =
 allI
 (shiftI
 (newI
 x.fst
 x.snd.fst).fst
 x.snd.snd.fst).fst ∧
 True ∧
 allI
 (newI
 x.fst
 x.snd.fst).fst =
 allI
 (newI
 x.fst
 x.snd.fst).fst ∧
 (↑(List.length
 (allI
 (newI
 x.fst
 x.snd.fst).fst)) :
 Int) =
 (↑(List.length
 (allI
 (newI
 x.fst
 x.snd.fst).fst)) :
 Int) ∧
 a =
 a ∧
 List.take
 (Int.toNat
 a)
 (allI
 (newI
 x.fst
 x.snd.fst).fst) =
 List.take
 (Int.toNat
 a)
 (allI
 (newI
 x.fst
 x.snd.fst).fst) ∧
 (↑(List.length
 (List.take
 (Int.toNat
 a)
 (allI
 (newI
 x.fst
 x.snd.fst).fst))) :
 Int) =
 (↑(List.length
 (List.take
 (Int.toNat
 a)
 (allI
 (newI
 x.fst
 x.snd.fst).fst))) :
 Int)) ∧
 (List.getD
 (allI
 (newI
 x.fst
 x.snd.fst).fst)
 (Int.toNat
 a)
 (Ty.dflt
 t42)).fst =
 (List.getD
 (allI
 (newI
 x.fst
 x.snd.fst).fst)
 (Int.toNat
 a)
 (Ty.dflt
 t42)).fst ∧
 (List.getD
 (allI
 (newI
 x.fst
 x.snd.fst).fst)
 (Int.toNat
 a)
 (Ty.dflt
 t42)).snd.fst =
 (List.getD
 (allI
 (newI
 x.fst
 x.snd.fst).fst)
 (Int.toNat
 a)
 (Ty.dflt
 t42)).snd.fst ∧
 (List.getD
 (allI
 (newI
 x.fst
 x.snd.fst).fst)
 (Int.toNat
 a)
 (Ty.dflt
 t42)).snd.snd.fst =
 (List.getD
 (allI
 (newI
 x.fst
 x.snd.fst).fst)
 (Int.toNat
 a)
 (Ty.dflt
 t42)).snd.snd.fst ∧
 (List.getD
 (allI
 (newI
 x.fst
 x.snd.fst).fst)
 (Int.toNat
 a)
 (Ty.dflt
 t42)).snd.snd.snd.fst =
 (List.getD
 (allI
 (newI
 x.fst
 x.snd.fst).fst)
 (Int.toNat
 a)
 (Ty.dflt
 t42)).snd.snd.snd.fst ∧
 (List.getD
 (allI
 (newI
 x.fst
 x.snd.fst).fst)
 (Int.toNat
 a)
 (Ty.dflt
 t42)).snd.snd.snd.snd.fst =
 (List.getD
 (allI
 (newI
 x.fst
 x.snd.fst).fst)
 (Int.toNat
 a)
 (Ty.dflt
 t42)).snd.snd.snd.snd.fst) ∧
 Z_1
 (IntKind.wrap
 IntKind.i64
 (a_3 +
 (1 :
 Int)),
 ()) ∧
 μ_1
 (IntKind.wrap
 IntKind.i64
 (a_3 +
 (1 :
 Int)),
 ()) <
 μ_1
 (a_3,
 ()))) ∧
 (((List.getD
 (allI
 (newI
 x.fst
 x.snd.fst).fst)
 (Int.toNat
 a)
 (Ty.dflt
 t42)).snd.fst ==
 (List.getD
 (List.take
 (Int.toNat
 a)
 (allI
 (newI
 x.fst
 x.snd.fst).fst))
 (Int.toNat
 a_3)
 (Ty.dflt
 t42)).snd.fst) =
 false →
 ((IntKind.wrap
 IntKind.i64
 (a_3 +
 (1 :
 Int)) =
 IntKind.wrap
 IntKind.i64
 (a_3 +
 (1 :
 Int)) ∧
 allI
 (newI
 x.fst
 x.snd.fst).fst =
 allI
 (newI
 x.fst
 x.snd.fst).fst ∧
 allI
 (shiftI
 (newI
 x.fst
 x.snd.fst).fst
 x.snd.snd.fst).fst =
 allI
 (shiftI
 (newI
 x.fst
 x.snd.fst).fst
 x.snd.snd.fst).fst ∧
 True ∧
 allI
 (newI
 x.fst
 x.snd.fst).fst =
 allI
 (newI
 x.fst
 x.snd.fst).fst ∧
 (↑(List.length
 (allI
 (newI
 x.fst
 x.snd.fst).fst)) :
 Int) =
 (↑(List.length
 (allI
 (newI
 x.fst
 x.snd.fst).fst)) :
 Int) ∧
 a =
 a ∧
 List.take
 (Int.toNat
 a)
 (allI
 (newI
 x.fst
 x.snd.fst).fst) =
 List.take
 (Int.toNat
 a)
 (allI
 (newI
 x.fst
 x.snd.fst).fst) ∧
 (↑(List.length
 (List.take
 (Int.toNat
 a)
 (allI
 (newI
 x.fst
 x.snd.fst).fst))) :
 Int) =
 (↑(List.length
 (List.take
 (Int.toNat
 a)
 (allI
 (newI
 x.fst
 x.snd.fst).fst))) :
 Int)) ∧
 (List.getD
 (allI
 (newI
 x.fst
 x.snd.fst).fst)
 (Int.toNat
 a)
 (Ty.dflt
 t42)).fst =
 (List.getD
 (allI
 (newI
 x.fst
 x.snd.fst).fst)
 (Int.toNat
 a)
 (Ty.dflt
 t42)).fst ∧
 (List.getD
 (allI
 (newI
 x.fst
 x.snd.fst).fst)
 (Int.toNat
 a)
 (Ty.dflt
 t42)).snd.fst =
 (List.getD
 (allI
 (newI
 x.fst
 x.snd.fst).fst)
 (Int.toNat
 a)
 (Ty.dflt
 t42)).snd.fst ∧
 (List.getD
 (allI
 (newI
 x.fst
 x.snd.fst).fst)
 (Int.toNat
 a)
 (Ty.dflt
 t42)).snd.snd.fst =
 (List.getD
 (allI
 (newI
 x.fst
 x.snd.fst).fst)
 (Int.toNat
 a)
 (Ty.dflt
 t42)).snd.snd.fst ∧
 (List.getD
 (allI
 (newI
 x.fst
 x.snd.fst).fst)
 (Int.toNat
 a)
 (Ty.dflt
 t42)).snd.snd.snd.fst =
 (List.getD
 (allI
 (newI
 x.fst
 x.snd.fst).fst)
 (Int.toNat
 a)
 (Ty.dflt
 t42)).snd.snd.snd.fst ∧
 (List.getD
 (allI
 (newI
 x.fst
 x.snd.fst).fst)
 (Int.toNat
 a)
 (Ty.dflt
 t42)).snd.snd.snd.snd.fst =
 (List.getD
 (allI
 (newI
 x.fst
 x.snd.fst).fst)
 (Int.toNat
 a)
 (Ty.dflt
 t42)).snd.snd.snd.snd.fst) ∧
 Z_1
 (IntKind.wrap
 IntKind.i64
 (a_3 +
 (1 :
 Int)),
 ()) ∧
 μ_1
 (IntKind.wrap
 IntKind.i64
 (a_3 +
 (1 :
 Int)),
 ()) <
 μ_1
 (a_3,
 ())))))) ∧
 (decide
 (a_3 <
 (↑(List.length
 (List.take (Int.toNat a)
 (allI
 (newI x.fst
 x.snd.fst).fst))) :
 Int)) =
 false →
 (IntKind.wrap IntKind.i64
 (a + (1 : Int)) =
 IntKind.wrap IntKind.i64
 (a + (1 : Int)) ∧
 allI (newI x.fst x.snd.fst).fst =
 allI (newI x.fst x.snd.fst).fst ∧
 allI
 (shiftI
 (newI x.fst x.snd.fst).fst
 x.snd.snd.fst).fst =
 allI
 (shiftI
 (newI x.fst x.snd.fst).fst
 x.snd.snd.fst).fst ∧
 allI (newI x.fst x.snd.fst).fst =
 allI
 (newI x.fst x.snd.fst).fst ∧
 (↑(List.length
 (allI
 (newI x.fst
 x.snd.fst).fst)) :
 Int) =
 (↑(List.length
 (allI
 (newI x.fst
 x.snd.fst).fst)) :
 Int)) ∧
 Z
 (IntKind.wrap IntKind.i64
 (a + (1 : Int)),
 ()) ∧
 μ
 (IntKind.wrap IntKind.i64
 (a + (1 : Int)),
 ()) <
 μ (a, ()))) ∧
 (decide
 (a <
 (↑(List.length (allI (newI x.fst x.snd.fst).fst)) :
 Int)) =
 false →
 True ∧ true = true))))))))
theorem vcEq5 : fnVC E5 Tryd.f5 (bodyOf Tryd.f5) cInlaysTogether = vc5 := by kernel_rfl
/- fn 6 -/
def hs6 : List (Nat × Nat × Hint) := [(0, 10, ⟨[.slot 7 t27, .slot 42 t3, .cell 9 0 t3, .cell 9 1 t22, .cell 9 2 t3], [9, 40, 41], [9], []⟩)]
def nm6 : List Nat := [3000000025]
noncomputable def E6 : Env := env tab [(8, cLong), (9, cThree), (10, cNew), (11, cRefNew), (12, cIs), (19, cShift), (21, cChanges), (20, cRefShift), (16, cSplice), (17, cRefSplice)] [] gl hs6 nm6
def vc6 : Prop :=
 ∀
 (x :
 Int ×
 List Inl ×
 List
 (Bool ×
 List Chg ×
 List Int × List Inl × Unit) ×
 Unit),
 (List.length x.snd.fst ≤ maxLen ∧
 List.length x.snd.snd.fst ≤ maxLen ∧
 ∀ (o : Ty.den t53),
 o ∈ x.snd.snd.fst →
 List.length o.snd.fst ≤ maxLen ∧
 List.length o.snd.snd.fst ≤ maxLen ∧ List.length o.snd.snd.snd.fst ≤ maxLen) →
 List.length x.snd.fst ≤ maxLen ∧
 (longI x.snd.fst = true → True ∧ true = true) ∧
 (longI x.snd.fst = false →
 (decide ((↑(List.length x.snd.snd.fst) : Int) > (20 : Int)) = true → True ∧ true = true) ∧
 (decide ((↑(List.length x.snd.snd.fst) : Int) > (20 : Int)) = false →
 (List.length x.snd.fst ≤ maxLen ∧ shortL x.snd.fst) ∧
 (List.length x.snd.fst ≤ maxLen ∧ shortL x.snd.fst) ∧
 (List.length (allI (newI x.fst x.snd.fst).fst) ≤ (10000 : Nat) ∧
 List.length (newW x.fst x.snd.fst).snd.fst ≤ (10000 : Nat)) ∧
 ((!isI (newI x.fst x.snd.fst).fst (newI x.fst x.snd.fst).snd.fst (newW x.fst x.snd.fst)) = true →
 false = true) ∧
 ((!isI (newI x.fst x.snd.fst).fst (newI x.fst x.snd.fst).snd.fst (newW x.fst x.snd.fst)) = false →
 (Option.isNone (newI x.fst x.snd.fst).fst = true → True ∧ true = true) ∧
 (Option.isNone (newI x.fst x.snd.fst).fst = false →
 (((0 : Int) = (0 : Int) ∧
 (newI x.fst x.snd.fst).fst = (newI x.fst x.snd.fst).fst ∧
 True ∧
 x.snd.snd.fst = x.snd.snd.fst ∧
 (↑(List.length x.snd.snd.fst) : Int) = (↑(List.length x.snd.snd.fst) : Int)) ∧
 (newW x.fst x.snd.fst).fst = (newW x.fst x.snd.fst).fst ∧
 (newW x.fst x.snd.fst).snd.fst = (newW x.fst x.snd.fst).snd.fst ∧
 (newW x.fst x.snd.fst).snd.snd.fst = (newW x.fst x.snd.fst).snd.snd.fst) ∧
 ∃ (Z :
 Option (Int × List Inl × Unit) ×
 Int × Int × List Inl × Int × Unit →
 Prop),
 ∃ (μ :
 Option (Int × List Inl × Unit) ×
 Int × Int × List Inl × Int × Unit →
 Nat),
 Z ((newI x.fst x.snd.fst).fst, (0 : Int), newW x.fst x.snd.fst) ∧
 ∀ (a : Option (Int × List Inl × Unit))
 (a_1 a_2 : Int) (a_3 : List Inl)
 (a_4 : Int),
 Z (a, a_1, a_2, a_3, a_4, ()) →
 (decide (a_1 < (↑(List.length x.snd.snd.fst) : Int)) = true →
 ((0 : Int) ≤ a_1 ∧ a_1 < (↑(List.length x.snd.snd.fst) : Int)) ∧
 List.length
 (List.getD x.snd.snd.fst (Int.toNat a_1)
 (Ty.dflt t53)).snd.snd.snd.fst ≤
 maxLen ∧
 (longI
 (List.getD x.snd.snd.fst (Int.toNat a_1)
 (Ty.dflt t53)).snd.snd.snd.fst =
 true →
 True ∧ true = true) ∧
 (longI
 (List.getD x.snd.snd.fst (Int.toNat a_1)
 (Ty.dflt t53)).snd.snd.snd.fst =
 false →
 (decide
 ((↑(List.length
 (List.getD x.snd.snd.fst (Int.toNat a_1)
 (Ty.dflt t53)).snd.snd.fst) :
 Int) >
 (100 : Int)) =
 true →
 True ∧ true = true) ∧
 (decide
 ((↑(List.length
 (List.getD x.snd.snd.fst (Int.toNat a_1)
 (Ty.dflt t53)).snd.snd.fst) :
 Int) >
 (100 : Int)) =
 false →
 (decide
 ((↑(List.length
 (List.getD x.snd.snd.fst (Int.toNat a_1)
 (Ty.dflt t53)).snd.fst) :
 Int) >
 (100 : Int)) =
 true →
 True ∧ true = true) ∧
 (decide
 ((↑(List.length
 (List.getD x.snd.snd.fst (Int.toNat a_1)
 (Ty.dflt t53)).snd.fst) :
 Int) >
 (100 : Int)) =
 false →
 ((List.getD x.snd.snd.fst (Int.toNat a_1)
 (Ty.dflt t53)).fst =
 true →
 (okI a ∧
 List.length
 (List.getD x.snd.snd.fst (Int.toNat a_1)
 (Ty.dflt t53)).snd.fst ≤
 (1000 : Nat)) ∧
 List.length
 (List.getD x.snd.snd.fst (Int.toNat a_1)
 (Ty.dflt t53)).snd.fst ≤
 (1000000000 : Nat) ∧
 (okW (a_2, a_3, a_4, ()) ∧
 (∀ (m : Ty.den t42),
 m ∈
 (((a, a_1, a_2, a_3, a_4,
 ()).snd.snd.fst,
 (a, a_1, a_2, a_3, a_4,
 ()).snd.snd.snd.fst,
 (a, a_1, a_2, a_3, a_4,
 ()).snd.snd.snd.snd.fst,
 ()),
 cChanges.fn
 ((List.getD x.snd.snd.fst
 (Int.toNat
 (a, a_1, a_2, a_3,
 a_4,
 ()).snd.fst)
 (Ty.dflt
 t53)).snd.fst,
 ()),
 ()).fst.snd.fst →
 (0 : Int) ≤ m.snd.fst ∧
 m.snd.fst ≤ (1099511627776 : Int)) ∧
 List.length
 (List.getD x.snd.snd.fst (Int.toNat a_1)
 (Ty.dflt t53)).snd.fst ≤
 (1000 : Nat)) ∧
 (List.length
 (allI
 (shiftI a
 (List.getD x.snd.snd.fst
 (Int.toNat a_1)
 (Ty.dflt t53)).snd.fst).fst) ≤
 (10000 : Nat) ∧
 List.length
 (shiftW (a_2, a_3, a_4, ())
 (List.getD x.snd.snd.fst
 (Int.toNat a_1)
 (Ty.dflt
 t53)).snd.fst).snd.fst ≤
 (10000 : Nat)) ∧
 ((!isI
 (shiftI a
 (List.getD x.snd.snd.fst
 (Int.toNat a_1)
 (Ty.dflt t53)).snd.fst).fst
 (shiftI a
 (List.getD x.snd.snd.fst
 (Int.toNat a_1)
 (Ty.dflt
 t53)).snd.fst).snd.fst
 (shiftW (a_2, a_3, a_4, ())
 (List.getD x.snd.snd.fst
 (Int.toNat a_1)
 (Ty.dflt t53)).snd.fst)) =
 true →
 false = true) ∧
 ((!isI
 (shiftI a
 (List.getD x.snd.snd.fst
 (Int.toNat a_1)
 (Ty.dflt t53)).snd.fst).fst
 (shiftI a
 (List.getD x.snd.snd.fst
 (Int.toNat a_1)
 (Ty.dflt
 t53)).snd.fst).snd.fst
 (shiftW (a_2, a_3, a_4, ())
 (List.getD x.snd.snd.fst
 (Int.toNat a_1)
 (Ty.dflt t53)).snd.fst)) =
 false →
 (List.length (allI a) ≤ (10000 : Nat) ∧
 List.length a_3 ≤ (10000 : Nat)) ∧
 ((!isI a (0 : Int) (a_2, a_3, a_4, ())) =
 true →
 false = true) ∧
 ((!isI a (0 : Int)
 (a_2, a_3, a_4, ())) =
 false →
 (Option.isSome
 (shiftI a
 (List.getD x.snd.snd.fst
 (Int.toNat a_1)
 (Ty.dflt
 t53)).snd.fst).fst =
 true →
 ((IntKind.wrap IntKind.i64
 (a_1 + (1 : Int)) =
 IntKind.wrap IntKind.i64
 (a_1 + (1 : Int)) ∧
 (shiftI a
 (List.getD
 x.snd.snd.fst
 (Int.toNat
 a_1)
 (Ty.dflt
 t53)).snd.fst).fst =
 (shiftI a
 (List.getD
 x.snd.snd.fst
 (Int.toNat
 a_1)
 (Ty.dflt
 t53)).snd.fst).fst ∧
 True ∧
 x.snd.snd.fst =
 x.snd.snd.fst ∧
 (↑(List.length
 x.snd.snd.fst) :
 Int) =
 (↑(List.length
 x.snd.snd.fst) :
 Int)) ∧
 (shiftW (a_2, a_3, a_4, ())
 (List.getD
 x.snd.snd.fst
 (Int.toNat a_1)
 (Ty.dflt
 t53)).snd.fst).fst =
 (shiftW
 (a_2, a_3, a_4, ())
 (List.getD
 x.snd.snd.fst
 (Int.toNat a_1)
 (Ty.dflt
 t53)).snd.fst).fst ∧
 (shiftW (a_2, a_3, a_4, ())
 (List.getD
 x.snd.snd.fst
 (Int.toNat
 a_1)
 (Ty.dflt
 t53)).snd.fst).snd.fst =
 (shiftW
 (a_2, a_3, a_4,
 ())
 (List.getD
 x.snd.snd.fst
 (Int.toNat
 a_1)
 (Ty.dflt
 t53)).snd.fst).snd.fst ∧
 (shiftW
 (a_2, a_3, a_4,
 ())
 (List.getD
 x.snd.snd.fst
 (Int.toNat
 a_1)
 (Ty.dflt
 t53)).snd.fst).snd.snd.fst =
 (shiftW
 (a_2, a_3, a_4,
 ())
 (List.getD
 x.snd.snd.fst
 (Int.toNat
 a_1)
 (Ty.dflt
 t53)).snd.fst).snd.snd.fst) ∧
 Z
 ((shiftI a
 (List.getD
 x.snd.snd.fst
 (Int.toNat a_1)
 (Ty.dflt
 t53)).snd.fst).fst,
 IntKind.wrap IntKind.i64
 (a_1 + (1 : Int)),
 shiftW (a_2, a_3, a_4, ())
 (List.getD x.snd.snd.fst
 (Int.toNat a_1)
 (Ty.dflt
 t53)).snd.fst) ∧
 μ
 ((shiftI a
 (List.getD
 x.snd.snd.fst
 (Int.toNat
 a_1)
 (Ty.dflt
 t53)).snd.fst).fst,
 IntKind.wrap IntKind.i64
 (a_1 + (1 : Int)),
 shiftW
 (a_2, a_3, a_4, ())
 (List.getD
 x.snd.snd.fst
 (Int.toNat a_1)
 (Ty.dflt
 t53)).snd.fst) <
 μ
 (a, a_1, a_2, a_3, a_4,
 ())) ∧
 (Option.isSome
 (shiftI a
 (List.getD x.snd.snd.fst
 (Int.toNat a_1)
 (Ty.dflt
 t53)).snd.fst).fst =
 false →
 ((IntKind.wrap IntKind.i64
 (a_1 + (1 : Int)) =
 IntKind.wrap IntKind.i64
 (a_1 + (1 : Int)) ∧
 a = a ∧
 True ∧
 x.snd.snd.fst =
 x.snd.snd.fst ∧
 (↑(List.length
 x.snd.snd.fst) :
 Int) =
 (↑(List.length
 x.snd.snd.fst) :
 Int)) ∧
 a_2 = a_2 ∧
 a_3 = a_3 ∧ a_4 = a_4) ∧
 Z
 (a,
 IntKind.wrap IntKind.i64
 (a_1 + (1 : Int)),
 a_2, a_3, a_4, ()) ∧
 μ
 (a,
 IntKind.wrap IntKind.i64
 (a_1 + (1 : Int)),
 a_2, a_3, a_4, ()) <
 μ
 (a, a_1, a_2, a_3, a_4,
 ()))))) ∧
 ((List.getD x.snd.snd.fst (Int.toNat a_1)
 (Ty.dflt t53)).fst =
 false →
 (okI a ∧
 List.length
 (List.getD x.snd.snd.fst (Int.toNat a_1)
 (Ty.dflt t53)).snd.snd.fst ≤
 (10000 : Nat) ∧
 List.length
 (List.getD x.snd.snd.fst (Int.toNat a_1)
 (Ty.dflt t53)).snd.snd.snd.fst ≤
 (10000 : Nat) ∧
 shortL
 (List.getD x.snd.snd.fst (Int.toNat a_1)
 (Ty.dflt t53)).snd.snd.snd.fst) ∧
 (okW (a_2, a_3, a_4, ()) ∧
 List.length
 (List.getD x.snd.snd.fst (Int.toNat a_1)
 (Ty.dflt t53)).snd.snd.fst ≤
 (10000 : Nat) ∧
 List.length
 (List.getD x.snd.snd.fst (Int.toNat a_1)
 (Ty.dflt t53)).snd.snd.snd.fst ≤
 (10000 : Nat) ∧
 shortL
 (List.getD x.snd.snd.fst (Int.toNat a_1)
 (Ty.dflt t53)).snd.snd.snd.fst) ∧
 (List.length
 (allI
 (spliceI a
 (List.getD x.snd.snd.fst
 (Int.toNat a_1)
 (Ty.dflt t53)).snd.snd.fst
 (List.getD x.snd.snd.fst
 (Int.toNat a_1)
 (Ty.dflt
 t53)).snd.snd.snd.fst).fst) ≤
 (10000 : Nat) ∧
 List.length
 (spliceW (a_2, a_3, a_4, ())
 (List.getD x.snd.snd.fst
 (Int.toNat a_1)
 (Ty.dflt t53)).snd.snd.fst
 (List.getD x.snd.snd.fst
 (Int.toNat a_1)
 (Ty.dflt
 t53)).snd.snd.snd.fst).snd.fst ≤
 (10000 : Nat)) ∧
 ((!isI
 (spliceI a
 (List.getD x.snd.snd.fst
 (Int.toNat a_1)
 (Ty.dflt t53)).snd.snd.fst
 (List.getD x.snd.snd.fst
 (Int.toNat a_1)
 (Ty.dflt
 t53)).snd.snd.snd.fst).fst
 (spliceI a
 (List.getD x.snd.snd.fst
 (Int.toNat a_1)
 (Ty.dflt t53)).snd.snd.fst
 (List.getD x.snd.snd.fst
 (Int.toNat a_1)
 (Ty.dflt
 t53)).snd.snd.snd.fst).snd.fst
 (spliceW (a_2, a_3, a_4, ())
 (List.getD x.snd.snd.fst
 (Int.toNat a_1)
 (Ty.dflt t53)).snd.snd.fst
 (List.getD x.snd.snd.fst
 (Int.toNat a_1)
 (Ty.dflt
 t53)).snd.snd.snd.fst)) =
 true →
 false = true) ∧
 ((!isI
 (spliceI a
 (List.getD x.snd.snd.fst
 (Int.toNat a_1)
 (Ty.dflt t53)).snd.snd.fst
 (List.getD x.snd.snd.fst
 (Int.toNat a_1)
 (Ty.dflt
 t53)).snd.snd.snd.fst).fst
 (spliceI a
 (List.getD x.snd.snd.fst
 (Int.toNat a_1)
 (Ty.dflt t53)).snd.snd.fst
 (List.getD x.snd.snd.fst
 (Int.toNat a_1)
 (Ty.dflt
 t53)).snd.snd.snd.fst).snd.fst
 (spliceW (a_2, a_3, a_4, ())
 (List.getD x.snd.snd.fst
 (Int.toNat a_1)
 (Ty.dflt t53)).snd.snd.fst
 (List.getD x.snd.snd.fst
 (Int.toNat a_1)
 (Ty.dflt
 t53)).snd.snd.snd.fst)) =
 false →
 (List.length (allI a) ≤ (10000 : Nat) ∧
 List.length a_3 ≤ (10000 : Nat)) ∧
 ((!isI a (0 : Int) (a_2, a_3, a_4, ())) =
 true →
 false = true) ∧
 ((!isI a (0 : Int) (a_2, a_3, a_4, ())) =
 false →
 (Option.isSome
 (spliceI a
 (List.getD x.snd.snd.fst
 (Int.toNat a_1)
 (Ty.dflt
 t53)).snd.snd.fst
 (List.getD x.snd.snd.fst
 (Int.toNat a_1)
 (Ty.dflt
 t53)).snd.snd.snd.fst).fst =
 true →
 ((IntKind.wrap IntKind.i64
 (a_1 + (1 : Int)) =
 IntKind.wrap IntKind.i64
 (a_1 + (1 : Int)) ∧
 (spliceI a
 (List.getD
 x.snd.snd.fst
 (Int.toNat
 a_1)
 (Ty.dflt
 t53)).snd.snd.fst
 (List.getD
 x.snd.snd.fst
 (Int.toNat
 a_1)
 (Ty.dflt
 t53)).snd.snd.snd.fst).fst =
 (spliceI a
 (List.getD
 x.snd.snd.fst
 (Int.toNat
 a_1)
 (Ty.dflt
 t53)).snd.snd.fst
 (List.getD
 x.snd.snd.fst
 (Int.toNat
 a_1)
 (Ty.dflt
 t53)).snd.snd.snd.fst).fst ∧
 True ∧
 x.snd.snd.fst =
 x.snd.snd.fst ∧
 (↑(List.length
 x.snd.snd.fst) :
 Int) =
 (↑(List.length
 x.snd.snd.fst) :
 Int)) ∧
 (spliceW (a_2, a_3, a_4, ())
 (List.getD x.snd.snd.fst
 (Int.toNat a_1)
 (Ty.dflt
 t53)).snd.snd.fst
 (List.getD x.snd.snd.fst
 (Int.toNat
 a_1)
 (Ty.dflt
 t53)).snd.snd.snd.fst).fst =
 (spliceW (a_2, a_3, a_4, ())
 (List.getD x.snd.snd.fst
 (Int.toNat a_1)
 (Ty.dflt
 t53)).snd.snd.fst
 (List.getD x.snd.snd.fst
 (Int.toNat
 a_1)
 (Ty.dflt
 t53)).snd.snd.snd.fst).fst ∧
 (spliceW (a_2, a_3, a_4, ())
 (List.getD
 x.snd.snd.fst
 (Int.toNat
 a_1)
 (Ty.dflt
 t53)).snd.snd.fst
 (List.getD
 x.snd.snd.fst
 (Int.toNat
 a_1)
 (Ty.dflt
 t53)).snd.snd.snd.fst).snd.fst =
 (spliceW
 (a_2, a_3, a_4, ())
 (List.getD
 x.snd.snd.fst
 (Int.toNat
 a_1)
 (Ty.dflt
 t53)).snd.snd.fst
 (List.getD
 x.snd.snd.fst
 (Int.toNat
 a_1)
 (Ty.dflt
 t53)).snd.snd.snd.fst).snd.fst ∧
 (spliceW (a_2, a_3, a_4, ())
 (List.getD
 x.snd.snd.fst
 (Int.toNat
 a_1)
 (Ty.dflt
 t53)).snd.snd.fst
 (List.getD
 x.snd.snd.fst
 (Int.toNat
 a_1)
 (Ty.dflt
 t53)).snd.snd.snd.fst).snd.snd.fst =
 (spliceW
 (a_2, a_3, a_4,
 ())
 (List.getD
 x.snd.snd.fst
 (Int.toNat
 a_1)
 (Ty.dflt
 t53)).snd.snd.fst
 (List.getD
 x.snd.snd.fst
 (Int.toNat
 a_1)
 (Ty.dflt
 t53)).snd.snd.snd.fst).snd.snd.fst) ∧
 Z
 ((spliceI a
 (List.getD x.snd.snd.fst
 (Int.toNat a_1)
 (Ty.dflt
 t53)).snd.snd.fst
 (List.getD x.snd.snd.fst
 (Int.toNat
 a_1)
 (Ty.dflt
 t53)).snd.snd.snd.fst).fst,
 IntKind.wrap IntKind.i64
 (a_1 + (1 : Int)),
 spliceW (a_2, a_3, a_4, ())
 (List.getD x.snd.snd.fst
 (Int.toNat a_1)
 (Ty.dflt
 t53)).snd.snd.fst
 (List.getD x.snd.snd.fst
 (Int.toNat a_1)
 (Ty.dflt
 t53)).snd.snd.snd.fst) ∧
 μ
 ((spliceI a
 (List.getD
 x.snd.snd.fst
 (Int.toNat
 a_1)
 (Ty.dflt
 t53)).snd.snd.fst
 (List.getD
 x.snd.snd.fst
 (Int.toNat
 a_1)
 (Ty.dflt
 t53)).snd.snd.snd.fst).fst,
 IntKind.wrap IntKind.i64
 (a_1 + (1 : Int)),
 spliceW
 (a_2, a_3, a_4, ())
 (List.getD x.snd.snd.fst
 (Int.toNat a_1)
 (Ty.dflt
 t53)).snd.snd.fst
 (List.getD x.snd.snd.fst
 (Int.toNat
 a_1)
 (Ty.dflt
 t53)).snd.snd.snd.fst) <
 μ
 (a, a_1, a_2, a_3, a_4,
 ())) ∧
 (Option.isSome
 (spliceI a
 (List.getD x.snd.snd.fst
 (Int.toNat a_1)
 (Ty.dflt
 t53)).snd.snd.fst
 (List.getD x.snd.snd.fst
 (Int.toNat a_1)
 (Ty.dflt
 t53)).snd.snd.snd.fst).fst =
 false →
 ((IntKind.wrap IntKind.i64
 (a_1 + (1 : Int)) =
 IntKind.wrap IntKind.i64
 (a_1 + (1 : Int)) ∧
 a = a ∧
 True ∧
 x.snd.snd.fst =
 x.snd.snd.fst ∧
 (↑(List.length
 x.snd.snd.fst) :
 Int) =
 (↑(List.length
 x.snd.snd.fst) :
 Int)) ∧
 a_2 = a_2 ∧
 a_3 = a_3 ∧ a_4 = a_4) ∧
 Z
 (a,
 IntKind.wrap IntKind.i64
 (a_1 + (1 : Int)),
 a_2, a_3, a_4, ()) ∧
 μ
 (a,
 IntKind.wrap IntKind.i64
 (a_1 + (1 : Int)),
 a_2, a_3, a_4, ()) <
 μ
 (a, a_1, a_2, a_3, a_4,
 ()))))))))) ∧
 (decide (a_1 < (↑(List.length x.snd.snd.fst) : Int)) = false →
 True ∧ true = true)))))
theorem vcEq6 : fnVC E6 Tryd.f6 (bodyOf Tryd.f6) cInlaysSteps = vc6 := by kernel_rfl
/- fn 7 -/
def hs7 : List (Nat × Nat × Hint) := []
def nm7 : List Nat := [3000000025]
noncomputable def E7 : Env := env tab [(9, cThree), (16, cSplice), (19, cShift), (22, cLen), (18, cAll), (14, cBetween)] [] gl hs7 nm7
def vc7 : Prop :=
 ∀ (x : List Int × Unit),
 List.length x.fst ≤ maxLen →
 (decide ((↑(List.length x.fst) : Int) > (100 : Int)) = true → True ∧ true = true) ∧
 (decide ((↑(List.length x.fst) : Int) > (100 : Int)) = false →
 (okI none ∧ List.length x.fst ≤ (10000 : Nat) ∧ (0 : Nat) ≤ (10000 : Nat) ∧ shortL []) ∧
 (okI none ∧ (0 : Nat) ≤ (1000 : Nat)) ∧
 (Ty.beq t4 ((spliceI none x.fst []).snd.fst == (6 : Int))
 (decide ((↑(List.length x.fst) : Int) > (0 : Int))) =
 true →
 (Ty.beq t4 (Option.isNone (spliceI none x.fst []).fst)
 (decide ((↑(List.length x.fst) : Int) > (0 : Int))) =
 true →
 (((shiftI none []).snd.fst == (0 : Int)) = true →
 (Option.isSome (shiftI none []).fst = true →
 True ∧
 ((lenI none == (0 : Int)) = true →
 List.length (allI none) ≤ (10000 : Nat) ∧
 (((↑(List.length (allI none)) : Int) == (0 : Int)) = true →
 List.length (allI none) ≤ (10000 : Nat) ∧
 (((↑(List.length (List.filter (inI (0 : Int) (9 : Int)) (allI none))) :
 Int) ==
 (0 : Int)) =
 true →
 True ∧ true = true) ∧
 (((↑(List.length (List.filter (inI (0 : Int) (9 : Int)) (allI none))) :
 Int) ==
 (0 : Int)) =
 false →
 false = true)) ∧
 (((↑(List.length (allI none)) : Int) == (0 : Int)) = false → false = true)) ∧
 ((lenI none == (0 : Int)) = false → false = true)) ∧
 (Option.isSome (shiftI none []).fst = false → false = true)) ∧
 (((shiftI none []).snd.fst == (0 : Int)) = false → false = true)) ∧
 (Ty.beq t4 (Option.isNone (spliceI none x.fst []).fst)
 (decide ((↑(List.length x.fst) : Int) > (0 : Int))) =
 false →
 false = true)) ∧
 (Ty.beq t4 ((spliceI none x.fst []).snd.fst == (6 : Int))
 (decide ((↑(List.length x.fst) : Int) > (0 : Int))) =
 false →
 false = true))
theorem vcEq7 : fnVC E7 Tryd.f7 (bodyOf Tryd.f7) cInlaysNil = vc7 := by kernel_rfl
end Go.Fr.C13
