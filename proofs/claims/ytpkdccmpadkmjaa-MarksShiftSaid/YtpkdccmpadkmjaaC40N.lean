/-
  Conditions to be proved, function by function, printed by a program. Conditions: none.
-/
import Derived.Test.YtpkdccmpadkmjaaC40A
namespace Go.Fr.C40
open Go Go.Fr Go.Proofs
set_option maxRecDepth 100000

/- fn 20 -/
def hs20 : List (Nat × Nat × Hint) := [(0, 10, ⟨[.rowN 44 t60 60, .slot 47 t3], [1, 6, 7, 45, 46], [], []⟩)]
def nm20 : List Nat := [3000000025, 3000000026, 3000000033, 3000000041]
noncomputable def E20 : Env := envR tab [(30, cNormal), (31, cDelta), (23, cAllO), (32, cMap), (9, cNew)] [(34, Try.f34)] noGl hs20 nm20 [(33, rDel)]
def vc20 : Prop :=
 ∀
 (x :
 Option (Int × List (Int × Int × Int × Int × Unit) × Unit) ×
 List Chg × Unit),
 okSet x.fst ∧ sizeM x.fst ≤ (1099511627776 : Int) ∧ (0 : Int) ≤ sizeM x.fst ∧ List.length x.snd.fst ≤ (1000 : Nat) →
 (Option.isSome x.fst = true →
 Option.isSome x.fst = true ∧
 List.length x.snd.fst ≤ maxLen ∧
 ((!normal x.snd.fst) = true → (none, (4 : Int), ()) = shiftM x.fst x.snd.fst) ∧
 ((!normal x.snd.fst) = false →
 (decide ((↑(List.length x.snd.fst) : Int) > (0 : Int)) = true →
 ((0 : Int) ≤ IntKind.wrap IntKind.i64 ((↑(List.length x.snd.fst) : Int) - (1 : Int)) ∧
 IntKind.wrap IntKind.i64 ((↑(List.length x.snd.fst) : Int) - (1 : Int)) <
 (↑(List.length x.snd.fst) : Int)) ∧
 (decide
 ((List.getD x.snd.fst
 (Int.toNat
 (IntKind.wrap IntKind.i64 ((↑(List.length x.snd.fst) : Int) - (1 : Int))))
 (Ty.dflt t76)).fst.snd.fst >
 (List.getD (optL x.fst) (0 : Nat) (Ty.dflt t63)).fst) =
 true →
 (none, (1 : Int), ()) = shiftM x.fst x.snd.fst) ∧
 (decide
 ((List.getD x.snd.fst
 (Int.toNat
 (IntKind.wrap IntKind.i64 ((↑(List.length x.snd.fst) : Int) - (1 : Int))))
 (Ty.dflt t76)).fst.snd.fst >
 (List.getD (optL x.fst) (0 : Nat) (Ty.dflt t63)).fst) =
 false →
 List.length x.snd.fst ≤ maxLen ∧
 (decide
 (IntKind.wrap IntKind.i64
 ((List.getD (optL x.fst) (0 : Nat) (Ty.dflt t63)).fst + delta x.snd.fst) >
 (1099511627776 : Int)) =
 true →
 (none, (1 : Int), ()) = shiftM x.fst x.snd.fst) ∧
 (decide
 (IntKind.wrap IntKind.i64
 ((List.getD (optL x.fst) (0 : Nat) (Ty.dflt t63)).fst + delta x.snd.fst) >
 (1099511627776 : Int)) =
 false →
 List.length (allM x.fst) ≤ (10000 : Nat) ∧
 (((0 : Int) = (0 : Int) ∧
 x.snd.fst = x.snd.fst ∧
 (List.getD (optL x.fst) (0 : Nat) (Ty.dflt t63)).fst =
 (List.getD (optL x.fst) (0 : Nat) (Ty.dflt t63)).fst ∧
 True ∧
 True ∧
 (↑(List.length (allM x.fst)) : Int) =
 (↑(List.length (allM x.fst)) : Int)) ∧
 allM x.fst = allM x.fst ∧ True) ∧
 ∃ (Z : List (Int × Int × Int × Int × Unit) × Int × Unit → Prop),
 ∃ (μ : List (Int × Int × Int × Int × Unit) × Int × Unit → Nat),
 Z (allM x.fst, (0 : Int), ()) ∧
 ∀ (a : List (Int × Int × Int × Int × Unit)) (a_1 : Int),
 Z (a, a_1, ()) →
 (decide (a_1 < (↑(List.length (allM x.fst)) : Int)) = true →
 ((0 : Int) ≤ a_1 ∧ a_1 < (↑(List.length a) : Int)) ∧
 List.length x.snd.fst ≤ maxLen ∧
 ((0 : Int) ≤ a_1 ∧ a_1 < (↑(List.length a) : Int)) ∧
 List.length x.snd.fst ≤ maxLen ∧
 ((0 : Int) ≤ a_1 ∧
 a_1 <
 (↑(List.length
 (List.set a (Int.toNat a_1)
 ((mapP x.snd.fst
 (List.getD a (Int.toNat a_1)
 (Ty.dflt t60)).fst
 (1 : Int)).fst,
 (List.getD a (Int.toNat a_1)
 (Ty.dflt t60)).snd))) :
 Int)) ∧
 ((IntKind.wrap IntKind.i64 (a_1 + (1 : Int)) =
 IntKind.wrap IntKind.i64 (a_1 + (1 : Int)) ∧
 x.snd.fst = x.snd.fst ∧
 (List.getD (optL x.fst) (0 : Nat)
 (Ty.dflt t63)).fst =
 (List.getD (optL x.fst) (0 : Nat)
 (Ty.dflt t63)).fst ∧
 True ∧
 True ∧
 (↑(List.length (allM x.fst)) : Int) =
 (↑(List.length (allM x.fst)) : Int)) ∧
 List.set
 (List.set a (Int.toNat a_1)
 ((mapP x.snd.fst
 (List.getD a (Int.toNat a_1)
 (Ty.dflt t60)).fst
 (1 : Int)).fst,
 (List.getD a (Int.toNat a_1)
 (Ty.dflt t60)).snd))
 (Int.toNat a_1)
 ((List.getD
 (List.set a (Int.toNat a_1)
 ((mapP x.snd.fst
 (List.getD a (Int.toNat a_1)
 (Ty.dflt t60)).fst
 (1 : Int)).fst,
 (List.getD a (Int.toNat a_1)
 (Ty.dflt t60)).snd))
 (Int.toNat a_1) (Ty.dflt t60)).fst,
 (mapP x.snd.fst
 (List.getD a (Int.toNat a_1)
 (Ty.dflt t60)).snd.fst
 (0 : Int)).fst,
 (List.getD
 (List.set a (Int.toNat a_1)
 ((mapP x.snd.fst
 (List.getD a (Int.toNat a_1)
 (Ty.dflt t60)).fst
 (1 : Int)).fst,
 (List.getD a (Int.toNat a_1)
 (Ty.dflt t60)).snd))
 (Int.toNat a_1) (Ty.dflt t60)).snd.snd) =
 List.set
 (List.set a (Int.toNat a_1)
 ((mapP x.snd.fst
 (List.getD a (Int.toNat a_1)
 (Ty.dflt t60)).fst
 (1 : Int)).fst,
 (List.getD a (Int.toNat a_1)
 (Ty.dflt t60)).snd))
 (Int.toNat a_1)
 ((List.getD
 (List.set a (Int.toNat a_1)
 ((mapP x.snd.fst
 (List.getD a (Int.toNat a_1)
 (Ty.dflt t60)).fst
 (1 : Int)).fst,
 (List.getD a (Int.toNat a_1)
 (Ty.dflt t60)).snd))
 (Int.toNat a_1) (Ty.dflt t60)).fst,
 (mapP x.snd.fst
 (List.getD a (Int.toNat a_1)
 (Ty.dflt t60)).snd.fst
 (0 : Int)).fst,
 (List.getD
 (List.set a (Int.toNat a_1)
 ((mapP x.snd.fst
 (List.getD a (Int.toNat a_1)
 (Ty.dflt t60)).fst
 (1 : Int)).fst,
 (List.getD a (Int.toNat a_1)
 (Ty.dflt t60)).snd))
 (Int.toNat a_1) (Ty.dflt t60)).snd.snd) ∧
 True) ∧
 Z
 (List.set
 (List.set a (Int.toNat a_1)
 ((mapP x.snd.fst
 (List.getD a (Int.toNat a_1)
 (Ty.dflt t60)).fst
 (1 : Int)).fst,
 (List.getD a (Int.toNat a_1)
 (Ty.dflt t60)).snd))
 (Int.toNat a_1)
 ((List.getD
 (List.set a (Int.toNat a_1)
 ((mapP x.snd.fst
 (List.getD a (Int.toNat a_1)
 (Ty.dflt t60)).fst
 (1 : Int)).fst,
 (List.getD a (Int.toNat a_1)
 (Ty.dflt t60)).snd))
 (Int.toNat a_1) (Ty.dflt t60)).fst,
 (mapP x.snd.fst
 (List.getD a (Int.toNat a_1)
 (Ty.dflt t60)).snd.fst
 (0 : Int)).fst,
 (List.getD
 (List.set a (Int.toNat a_1)
 ((mapP x.snd.fst
 (List.getD a (Int.toNat a_1)
 (Ty.dflt t60)).fst
 (1 : Int)).fst,
 (List.getD a (Int.toNat a_1)
 (Ty.dflt t60)).snd))
 (Int.toNat a_1) (Ty.dflt t60)).snd.snd),
 IntKind.wrap IntKind.i64 (a_1 + (1 : Int)), ()) ∧
 μ
 (List.set
 (List.set a (Int.toNat a_1)
 ((mapP x.snd.fst
 (List.getD a (Int.toNat a_1)
 (Ty.dflt t60)).fst
 (1 : Int)).fst,
 (List.getD a (Int.toNat a_1)
 (Ty.dflt t60)).snd))
 (Int.toNat a_1)
 ((List.getD
 (List.set a (Int.toNat a_1)
 ((mapP x.snd.fst
 (List.getD a (Int.toNat a_1)
 (Ty.dflt t60)).fst
 (1 : Int)).fst,
 (List.getD a (Int.toNat a_1)
 (Ty.dflt t60)).snd))
 (Int.toNat a_1) (Ty.dflt t60)).fst,
 (mapP x.snd.fst
 (List.getD a (Int.toNat a_1)
 (Ty.dflt t60)).snd.fst
 (0 : Int)).fst,
 (List.getD
 (List.set a (Int.toNat a_1)
 ((mapP x.snd.fst
 (List.getD a (Int.toNat a_1)
 (Ty.dflt t60)).fst
 (1 : Int)).fst,
 (List.getD a (Int.toNat a_1)
 (Ty.dflt t60)).snd))
 (Int.toNat a_1) (Ty.dflt t60)).snd.snd),
 IntKind.wrap IntKind.i64 (a_1 + (1 : Int)), ()) <
 μ (a, a_1, ())) ∧
 (decide (a_1 < (↑(List.length (allM x.fst)) : Int)) = false →
 List.length x.snd.fst ≤ maxLen ∧
 List.length a ≤ (10000 : Nat) ∧
 ∀ (ys : List (Int × Int × Int × Int × Unit)),
 ys =
 List.filter (fun (m : Mark) ↦ decide (m.fst < m.snd.fst))
 a →
 List.length ys ≤ maxLen ∧
 newM
 (IntKind.wrap IntKind.i64
 ((List.getD (optL x.fst) (0 : Nat)
 (Ty.dflt t63)).fst +
 delta x.snd.fst))
 ys =
 shiftM x.fst x.snd.fst)))) ∧
 (decide ((↑(List.length x.snd.fst) : Int) > (0 : Int)) = false →
 List.length x.snd.fst ≤ maxLen ∧
 (decide
 (IntKind.wrap IntKind.i64
 ((List.getD (optL x.fst) (0 : Nat) (Ty.dflt t63)).fst + delta x.snd.fst) >
 (1099511627776 : Int)) =
 true →
 (none, (1 : Int), ()) = shiftM x.fst x.snd.fst) ∧
 (decide
 (IntKind.wrap IntKind.i64
 ((List.getD (optL x.fst) (0 : Nat) (Ty.dflt t63)).fst + delta x.snd.fst) >
 (1099511627776 : Int)) =
 false →
 List.length (allM x.fst) ≤ (10000 : Nat) ∧
 (((0 : Int) = (0 : Int) ∧
 x.snd.fst = x.snd.fst ∧
 (List.getD (optL x.fst) (0 : Nat) (Ty.dflt t63)).fst =
 (List.getD (optL x.fst) (0 : Nat) (Ty.dflt t63)).fst ∧
 True ∧
 True ∧
 (↑(List.length (allM x.fst)) : Int) = (↑(List.length (allM x.fst)) : Int)) ∧
 allM x.fst = allM x.fst ∧ True) ∧
 ∃ (Z : List (Int × Int × Int × Int × Unit) × Int × Unit → Prop),
 ∃ (μ : List (Int × Int × Int × Int × Unit) × Int × Unit → Nat),
 Z (allM x.fst, (0 : Int), ()) ∧
 ∀ (a : List (Int × Int × Int × Int × Unit)) (a_1 : Int),
 Z (a, a_1, ()) →
 (decide (a_1 < (↑(List.length (allM x.fst)) : Int)) = true →
 ((0 : Int) ≤ a_1 ∧ a_1 < (↑(List.length a) : Int)) ∧
 List.length x.snd.fst ≤ maxLen ∧
 ((0 : Int) ≤ a_1 ∧ a_1 < (↑(List.length a) : Int)) ∧
 List.length x.snd.fst ≤ maxLen ∧
 ((0 : Int) ≤ a_1 ∧
 a_1 <
 (↑(List.length
 (List.set a (Int.toNat a_1)
 ((mapP x.snd.fst
 (List.getD a (Int.toNat a_1) (Ty.dflt t60)).fst
 (1 : Int)).fst,
 (List.getD a (Int.toNat a_1) (Ty.dflt t60)).snd))) :
 Int)) ∧
 ((IntKind.wrap IntKind.i64 (a_1 + (1 : Int)) =
 IntKind.wrap IntKind.i64 (a_1 + (1 : Int)) ∧
 x.snd.fst = x.snd.fst ∧
 (List.getD (optL x.fst) (0 : Nat) (Ty.dflt t63)).fst =
 (List.getD (optL x.fst) (0 : Nat) (Ty.dflt t63)).fst ∧
 True ∧
 True ∧
 (↑(List.length (allM x.fst)) : Int) =
 (↑(List.length (allM x.fst)) : Int)) ∧
 List.set
 (List.set a (Int.toNat a_1)
 ((mapP x.snd.fst
 (List.getD a (Int.toNat a_1) (Ty.dflt t60)).fst
 (1 : Int)).fst,
 (List.getD a (Int.toNat a_1) (Ty.dflt t60)).snd))
 (Int.toNat a_1)
 ((List.getD
 (List.set a (Int.toNat a_1)
 ((mapP x.snd.fst
 (List.getD a (Int.toNat a_1)
 (Ty.dflt t60)).fst
 (1 : Int)).fst,
 (List.getD a (Int.toNat a_1)
 (Ty.dflt t60)).snd))
 (Int.toNat a_1) (Ty.dflt t60)).fst,
 (mapP x.snd.fst
 (List.getD a (Int.toNat a_1)
 (Ty.dflt t60)).snd.fst
 (0 : Int)).fst,
 (List.getD
 (List.set a (Int.toNat a_1)
 ((mapP x.snd.fst
 (List.getD a (Int.toNat a_1)
 (Ty.dflt t60)).fst
 (1 : Int)).fst,
 (List.getD a (Int.toNat a_1)
 (Ty.dflt t60)).snd))
 (Int.toNat a_1) (Ty.dflt t60)).snd.snd) =
 List.set
 (List.set a (Int.toNat a_1)
 ((mapP x.snd.fst
 (List.getD a (Int.toNat a_1) (Ty.dflt t60)).fst
 (1 : Int)).fst,
 (List.getD a (Int.toNat a_1) (Ty.dflt t60)).snd))
 (Int.toNat a_1)
 ((List.getD
 (List.set a (Int.toNat a_1)
 ((mapP x.snd.fst
 (List.getD a (Int.toNat a_1)
 (Ty.dflt t60)).fst
 (1 : Int)).fst,
 (List.getD a (Int.toNat a_1)
 (Ty.dflt t60)).snd))
 (Int.toNat a_1) (Ty.dflt t60)).fst,
 (mapP x.snd.fst
 (List.getD a (Int.toNat a_1)
 (Ty.dflt t60)).snd.fst
 (0 : Int)).fst,
 (List.getD
 (List.set a (Int.toNat a_1)
 ((mapP x.snd.fst
 (List.getD a (Int.toNat a_1)
 (Ty.dflt t60)).fst
 (1 : Int)).fst,
 (List.getD a (Int.toNat a_1)
 (Ty.dflt t60)).snd))
 (Int.toNat a_1) (Ty.dflt t60)).snd.snd) ∧
 True) ∧
 Z
 (List.set
 (List.set a (Int.toNat a_1)
 ((mapP x.snd.fst
 (List.getD a (Int.toNat a_1) (Ty.dflt t60)).fst
 (1 : Int)).fst,
 (List.getD a (Int.toNat a_1) (Ty.dflt t60)).snd))
 (Int.toNat a_1)
 ((List.getD
 (List.set a (Int.toNat a_1)
 ((mapP x.snd.fst
 (List.getD a (Int.toNat a_1)
 (Ty.dflt t60)).fst
 (1 : Int)).fst,
 (List.getD a (Int.toNat a_1)
 (Ty.dflt t60)).snd))
 (Int.toNat a_1) (Ty.dflt t60)).fst,
 (mapP x.snd.fst
 (List.getD a (Int.toNat a_1)
 (Ty.dflt t60)).snd.fst
 (0 : Int)).fst,
 (List.getD
 (List.set a (Int.toNat a_1)
 ((mapP x.snd.fst
 (List.getD a (Int.toNat a_1)
 (Ty.dflt t60)).fst
 (1 : Int)).fst,
 (List.getD a (Int.toNat a_1)
 (Ty.dflt t60)).snd))
 (Int.toNat a_1) (Ty.dflt t60)).snd.snd),
 IntKind.wrap IntKind.i64 (a_1 + (1 : Int)), ()) ∧
 μ
 (List.set
 (List.set a (Int.toNat a_1)
 ((mapP x.snd.fst
 (List.getD a (Int.toNat a_1)
 (Ty.dflt t60)).fst
 (1 : Int)).fst,
 (List.getD a (Int.toNat a_1) (Ty.dflt t60)).snd))
 (Int.toNat a_1)
 ((List.getD
 (List.set a (Int.toNat a_1)
 ((mapP x.snd.fst
 (List.getD a (Int.toNat a_1)
 (Ty.dflt t60)).fst
 (1 : Int)).fst,
 (List.getD a (Int.toNat a_1)
 (Ty.dflt t60)).snd))
 (Int.toNat a_1) (Ty.dflt t60)).fst,
 (mapP x.snd.fst
 (List.getD a (Int.toNat a_1)
 (Ty.dflt t60)).snd.fst
 (0 : Int)).fst,
 (List.getD
 (List.set a (Int.toNat a_1)
 ((mapP x.snd.fst
 (List.getD a (Int.toNat a_1)
 (Ty.dflt t60)).fst
 (1 : Int)).fst,
 (List.getD a (Int.toNat a_1)
 (Ty.dflt t60)).snd))
 (Int.toNat a_1) (Ty.dflt t60)).snd.snd),
 IntKind.wrap IntKind.i64 (a_1 + (1 : Int)), ()) <
 μ (a, a_1, ())) ∧
 (decide (a_1 < (↑(List.length (allM x.fst)) : Int)) = false →
 List.length x.snd.fst ≤ maxLen ∧
 List.length a ≤ (10000 : Nat) ∧
 ∀ (ys : List (Int × Int × Int × Int × Unit)),
 ys = List.filter (fun (m : Mark) ↦ decide (m.fst < m.snd.fst)) a →
 List.length ys ≤ maxLen ∧
 newM
 (IntKind.wrap IntKind.i64
 ((List.getD (optL x.fst) (0 : Nat) (Ty.dflt t63)).fst +
 delta x.snd.fst))
 ys =
 shiftM x.fst x.snd.fst))))) ∧
 (Option.isSome x.fst = false →
 List.length x.snd.fst ≤ maxLen ∧
 ((!normal x.snd.fst) = true → (none, (4 : Int), ()) = shiftM x.fst x.snd.fst) ∧
 ((!normal x.snd.fst) = false →
 (decide ((↑(List.length x.snd.fst) : Int) > (0 : Int)) = true →
 ((0 : Int) ≤ IntKind.wrap IntKind.i64 ((↑(List.length x.snd.fst) : Int) - (1 : Int)) ∧
 IntKind.wrap IntKind.i64 ((↑(List.length x.snd.fst) : Int) - (1 : Int)) <
 (↑(List.length x.snd.fst) : Int)) ∧
 (decide
 ((List.getD x.snd.fst
 (Int.toNat
 (IntKind.wrap IntKind.i64 ((↑(List.length x.snd.fst) : Int) - (1 : Int))))
 (Ty.dflt t76)).fst.snd.fst >
 (0 : Int)) =
 true →
 (none, (1 : Int), ()) = shiftM x.fst x.snd.fst) ∧
 (decide
 ((List.getD x.snd.fst
 (Int.toNat
 (IntKind.wrap IntKind.i64 ((↑(List.length x.snd.fst) : Int) - (1 : Int))))
 (Ty.dflt t76)).fst.snd.fst >
 (0 : Int)) =
 false →
 List.length x.snd.fst ≤ maxLen ∧
 (decide (IntKind.wrap IntKind.i64 ((0 : Int) + delta x.snd.fst) > (1099511627776 : Int)) =
 true →
 (none, (1 : Int), ()) = shiftM x.fst x.snd.fst) ∧
 (decide (IntKind.wrap IntKind.i64 ((0 : Int) + delta x.snd.fst) > (1099511627776 : Int)) =
 false →
 List.length (allM x.fst) ≤ (10000 : Nat) ∧
 (((0 : Int) = (0 : Int) ∧
 x.snd.fst = x.snd.fst ∧
 (0 : Int) = (0 : Int) ∧
 True ∧
 True ∧
 (↑(List.length (allM x.fst)) : Int) =
 (↑(List.length (allM x.fst)) : Int)) ∧
 allM x.fst = allM x.fst ∧ True) ∧
 ∃ (Z : List (Int × Int × Int × Int × Unit) × Int × Unit → Prop),
 ∃ (μ : List (Int × Int × Int × Int × Unit) × Int × Unit → Nat),
 Z (allM x.fst, (0 : Int), ()) ∧
 ∀ (a : List (Int × Int × Int × Int × Unit)) (a_1 : Int),
 Z (a, a_1, ()) →
 (decide (a_1 < (↑(List.length (allM x.fst)) : Int)) = true →
 ((0 : Int) ≤ a_1 ∧ a_1 < (↑(List.length a) : Int)) ∧
 List.length x.snd.fst ≤ maxLen ∧
 ((0 : Int) ≤ a_1 ∧ a_1 < (↑(List.length a) : Int)) ∧
 List.length x.snd.fst ≤ maxLen ∧
 ((0 : Int) ≤ a_1 ∧
 a_1 <
 (↑(List.length
 (List.set a (Int.toNat a_1)
 ((mapP x.snd.fst
 (List.getD a (Int.toNat a_1)
 (Ty.dflt t60)).fst
 (1 : Int)).fst,
 (List.getD a (Int.toNat a_1)
 (Ty.dflt t60)).snd))) :
 Int)) ∧
 ((IntKind.wrap IntKind.i64 (a_1 + (1 : Int)) =
 IntKind.wrap IntKind.i64 (a_1 + (1 : Int)) ∧
 x.snd.fst = x.snd.fst ∧
 (0 : Int) = (0 : Int) ∧
 True ∧
 True ∧
 (↑(List.length (allM x.fst)) : Int) =
 (↑(List.length (allM x.fst)) : Int)) ∧
 List.set
 (List.set a (Int.toNat a_1)
 ((mapP x.snd.fst
 (List.getD a (Int.toNat a_1)
 (Ty.dflt t60)).fst
 (1 : Int)).fst,
 (List.getD a (Int.toNat a_1)
 (Ty.dflt t60)).snd))
 (Int.toNat a_1)
 ((List.getD
 (List.set a (Int.toNat a_1)
 ((mapP x.snd.fst
 (List.getD a (Int.toNat a_1)
 (Ty.dflt t60)).fst
 (1 : Int)).fst,
 (List.getD a (Int.toNat a_1)
 (Ty.dflt t60)).snd))
 (Int.toNat a_1) (Ty.dflt t60)).fst,
 (mapP x.snd.fst
 (List.getD a (Int.toNat a_1)
 (Ty.dflt t60)).snd.fst
 (0 : Int)).fst,
 (List.getD
 (List.set a (Int.toNat a_1)
 ((mapP x.snd.fst
 (List.getD a (Int.toNat a_1)
 (Ty.dflt t60)).fst
 (1 : Int)).fst,
 (List.getD a (Int.toNat a_1)
 (Ty.dflt t60)).snd))
 (Int.toNat a_1) (Ty.dflt t60)).snd.snd) =
 List.set
 (List.set a (Int.toNat a_1)
 ((mapP x.snd.fst
 (List.getD a (Int.toNat a_1)
 (Ty.dflt t60)).fst
 (1 : Int)).fst,
 (List.getD a (Int.toNat a_1)
 (Ty.dflt t60)).snd))
 (Int.toNat a_1)
 ((List.getD
 (List.set a (Int.toNat a_1)
 ((mapP x.snd.fst
 (List.getD a (Int.toNat a_1)
 (Ty.dflt t60)).fst
 (1 : Int)).fst,
 (List.getD a (Int.toNat a_1)
 (Ty.dflt t60)).snd))
 (Int.toNat a_1) (Ty.dflt t60)).fst,
 (mapP x.snd.fst
 (List.getD a (Int.toNat a_1)
 (Ty.dflt t60)).snd.fst
 (0 : Int)).fst,
 (List.getD
 (List.set a (Int.toNat a_1)
 ((mapP x.snd.fst
 (List.getD a (Int.toNat a_1)
 (Ty.dflt t60)).fst
 (1 : Int)).fst,
 (List.getD a (Int.toNat a_1)
 (Ty.dflt t60)).snd))
 (Int.toNat a_1) (Ty.dflt t60)).snd.snd) ∧
 True) ∧
 Z
 (List.set
 (List.set a (Int.toNat a_1)
 ((mapP x.snd.fst
 (List.getD a (Int.toNat a_1)
 (Ty.dflt t60)).fst
 (1 : Int)).fst,
 (List.getD a (Int.toNat a_1)
 (Ty.dflt t60)).snd))
 (Int.toNat a_1)
 ((List.getD
 (List.set a (Int.toNat a_1)
 ((mapP x.snd.fst
 (List.getD a (Int.toNat a_1)
 (Ty.dflt t60)).fst
 (1 : Int)).fst,
 (List.getD a (Int.toNat a_1)
 (Ty.dflt t60)).snd))
 (Int.toNat a_1) (Ty.dflt t60)).fst,
 (mapP x.snd.fst
 (List.getD a (Int.toNat a_1)
 (Ty.dflt t60)).snd.fst
 (0 : Int)).fst,
 (List.getD
 (List.set a (Int.toNat a_1)
 ((mapP x.snd.fst
 (List.getD a (Int.toNat a_1)
 (Ty.dflt t60)).fst
 (1 : Int)).fst,
 (List.getD a (Int.toNat a_1)
 (Ty.dflt t60)).snd))
 (Int.toNat a_1) (Ty.dflt t60)).snd.snd),
 IntKind.wrap IntKind.i64 (a_1 + (1 : Int)), ()) ∧
 μ
 (List.set
 (List.set a (Int.toNat a_1)
 ((mapP x.snd.fst
 (List.getD a (Int.toNat a_1)
 (Ty.dflt t60)).fst
 (1 : Int)).fst,
 (List.getD a (Int.toNat a_1)
 (Ty.dflt t60)).snd))
 (Int.toNat a_1)
 ((List.getD
 (List.set a (Int.toNat a_1)
 ((mapP x.snd.fst
 (List.getD a (Int.toNat a_1)
 (Ty.dflt t60)).fst
 (1 : Int)).fst,
 (List.getD a (Int.toNat a_1)
 (Ty.dflt t60)).snd))
 (Int.toNat a_1) (Ty.dflt t60)).fst,
 (mapP x.snd.fst
 (List.getD a (Int.toNat a_1)
 (Ty.dflt t60)).snd.fst
 (0 : Int)).fst,
 (List.getD
 (List.set a (Int.toNat a_1)
 ((mapP x.snd.fst
 (List.getD a (Int.toNat a_1)
 (Ty.dflt t60)).fst
 (1 : Int)).fst,
 (List.getD a (Int.toNat a_1)
 (Ty.dflt t60)).snd))
 (Int.toNat a_1) (Ty.dflt t60)).snd.snd),
 IntKind.wrap IntKind.i64 (a_1 + (1 : Int)), ()) <
 μ (a, a_1, ())) ∧
 (decide (a_1 < (↑(List.length (allM x.fst)) : Int)) = false →
 List.length x.snd.fst ≤ maxLen ∧
 List.length a ≤ (10000 : Nat) ∧
 ∀ (ys : List (Int × Int × Int × Int × Unit)),
 ys = List.filter (fun (m : Mark) ↦ decide (m.fst < m.snd.fst)) a →
 List.length ys ≤ maxLen ∧
 newM (IntKind.wrap IntKind.i64 ((0 : Int) + delta x.snd.fst))
 ys =
 shiftM x.fst x.snd.fst)))) ∧
 (decide ((↑(List.length x.snd.fst) : Int) > (0 : Int)) = false →
 List.length x.snd.fst ≤ maxLen ∧
 (decide (IntKind.wrap IntKind.i64 ((0 : Int) + delta x.snd.fst) > (1099511627776 : Int)) = true →
 (none, (1 : Int), ()) = shiftM x.fst x.snd.fst) ∧
 (decide (IntKind.wrap IntKind.i64 ((0 : Int) + delta x.snd.fst) > (1099511627776 : Int)) = false →
 List.length (allM x.fst) ≤ (10000 : Nat) ∧
 (((0 : Int) = (0 : Int) ∧
 x.snd.fst = x.snd.fst ∧
 (0 : Int) = (0 : Int) ∧
 True ∧
 True ∧
 (↑(List.length (allM x.fst)) : Int) = (↑(List.length (allM x.fst)) : Int)) ∧
 allM x.fst = allM x.fst ∧ True) ∧
 ∃ (Z : List (Int × Int × Int × Int × Unit) × Int × Unit → Prop),
 ∃ (μ : List (Int × Int × Int × Int × Unit) × Int × Unit → Nat),
 Z (allM x.fst, (0 : Int), ()) ∧
 ∀ (a : List (Int × Int × Int × Int × Unit)) (a_1 : Int),
 Z (a, a_1, ()) →
 (decide (a_1 < (↑(List.length (allM x.fst)) : Int)) = true →
 ((0 : Int) ≤ a_1 ∧ a_1 < (↑(List.length a) : Int)) ∧
 List.length x.snd.fst ≤ maxLen ∧
 ((0 : Int) ≤ a_1 ∧ a_1 < (↑(List.length a) : Int)) ∧
 List.length x.snd.fst ≤ maxLen ∧
 ((0 : Int) ≤ a_1 ∧
 a_1 <
 (↑(List.length
 (List.set a (Int.toNat a_1)
 ((mapP x.snd.fst
 (List.getD a (Int.toNat a_1) (Ty.dflt t60)).fst
 (1 : Int)).fst,
 (List.getD a (Int.toNat a_1) (Ty.dflt t60)).snd))) :
 Int)) ∧
 ((IntKind.wrap IntKind.i64 (a_1 + (1 : Int)) =
 IntKind.wrap IntKind.i64 (a_1 + (1 : Int)) ∧
 x.snd.fst = x.snd.fst ∧
 (0 : Int) = (0 : Int) ∧
 True ∧
 True ∧
 (↑(List.length (allM x.fst)) : Int) =
 (↑(List.length (allM x.fst)) : Int)) ∧
 List.set
 (List.set a (Int.toNat a_1)
 ((mapP x.snd.fst
 (List.getD a (Int.toNat a_1) (Ty.dflt t60)).fst
 (1 : Int)).fst,
 (List.getD a (Int.toNat a_1) (Ty.dflt t60)).snd))
 (Int.toNat a_1)
 ((List.getD
 (List.set a (Int.toNat a_1)
 ((mapP x.snd.fst
 (List.getD a (Int.toNat a_1)
 (Ty.dflt t60)).fst
 (1 : Int)).fst,
 (List.getD a (Int.toNat a_1)
 (Ty.dflt t60)).snd))
 (Int.toNat a_1) (Ty.dflt t60)).fst,
 (mapP x.snd.fst
 (List.getD a (Int.toNat a_1) (Ty.dflt t60)).snd.fst
 (0 : Int)).fst,
 (List.getD
 (List.set a (Int.toNat a_1)
 ((mapP x.snd.fst
 (List.getD a (Int.toNat a_1)
 (Ty.dflt t60)).fst
 (1 : Int)).fst,
 (List.getD a (Int.toNat a_1)
 (Ty.dflt t60)).snd))
 (Int.toNat a_1) (Ty.dflt t60)).snd.snd) =
 List.set
 (List.set a (Int.toNat a_1)
 ((mapP x.snd.fst
 (List.getD a (Int.toNat a_1) (Ty.dflt t60)).fst
 (1 : Int)).fst,
 (List.getD a (Int.toNat a_1) (Ty.dflt t60)).snd))
 (Int.toNat a_1)
 ((List.getD
 (List.set a (Int.toNat a_1)
 ((mapP x.snd.fst
 (List.getD a (Int.toNat a_1)
 (Ty.dflt t60)).fst
 (1 : Int)).fst,
 (List.getD a (Int.toNat a_1)
 (Ty.dflt t60)).snd))
 (Int.toNat a_1) (Ty.dflt t60)).fst,
 (mapP x.snd.fst
 (List.getD a (Int.toNat a_1) (Ty.dflt t60)).snd.fst
 (0 : Int)).fst,
 (List.getD
 (List.set a (Int.toNat a_1)
 ((mapP x.snd.fst
 (List.getD a (Int.toNat a_1)
 (Ty.dflt t60)).fst
 (1 : Int)).fst,
 (List.getD a (Int.toNat a_1)
 (Ty.dflt t60)).snd))
 (Int.toNat a_1) (Ty.dflt t60)).snd.snd) ∧
 True) ∧
 Z
 (List.set
 (List.set a (Int.toNat a_1)
 ((mapP x.snd.fst
 (List.getD a (Int.toNat a_1) (Ty.dflt t60)).fst
 (1 : Int)).fst,
 (List.getD a (Int.toNat a_1) (Ty.dflt t60)).snd))
 (Int.toNat a_1)
 ((List.getD
 (List.set a (Int.toNat a_1)
 ((mapP x.snd.fst
 (List.getD a (Int.toNat a_1)
 (Ty.dflt t60)).fst
 (1 : Int)).fst,
 (List.getD a (Int.toNat a_1)
 (Ty.dflt t60)).snd))
 (Int.toNat a_1) (Ty.dflt t60)).fst,
 (mapP x.snd.fst
 (List.getD a (Int.toNat a_1) (Ty.dflt t60)).snd.fst
 (0 : Int)).fst,
 (List.getD
 (List.set a (Int.toNat a_1)
 ((mapP x.snd.fst
 (List.getD a (Int.toNat a_1)
 (Ty.dflt t60)).fst
 (1 : Int)).fst,
 (List.getD a (Int.toNat a_1)
 (Ty.dflt t60)).snd))
 (Int.toNat a_1) (Ty.dflt t60)).snd.snd),
 IntKind.wrap IntKind.i64 (a_1 + (1 : Int)), ()) ∧
 μ
 (List.set
 (List.set a (Int.toNat a_1)
 ((mapP x.snd.fst
 (List.getD a (Int.toNat a_1) (Ty.dflt t60)).fst
 (1 : Int)).fst,
 (List.getD a (Int.toNat a_1) (Ty.dflt t60)).snd))
 (Int.toNat a_1)
 ((List.getD
 (List.set a (Int.toNat a_1)
 ((mapP x.snd.fst
 (List.getD a (Int.toNat a_1)
 (Ty.dflt t60)).fst
 (1 : Int)).fst,
 (List.getD a (Int.toNat a_1)
 (Ty.dflt t60)).snd))
 (Int.toNat a_1) (Ty.dflt t60)).fst,
 (mapP x.snd.fst
 (List.getD a (Int.toNat a_1)
 (Ty.dflt t60)).snd.fst
 (0 : Int)).fst,
 (List.getD
 (List.set a (Int.toNat a_1)
 ((mapP x.snd.fst
 (List.getD a (Int.toNat a_1)
 (Ty.dflt t60)).fst
 (1 : Int)).fst,
 (List.getD a (Int.toNat a_1)
 (Ty.dflt t60)).snd))
 (Int.toNat a_1) (Ty.dflt t60)).snd.snd),
 IntKind.wrap IntKind.i64 (a_1 + (1 : Int)), ()) <
 μ (a, a_1, ())) ∧
 (decide (a_1 < (↑(List.length (allM x.fst)) : Int)) = false →
 List.length x.snd.fst ≤ maxLen ∧
 List.length a ≤ (10000 : Nat) ∧
 ∀ (ys : List (Int × Int × Int × Int × Unit)),
 ys = List.filter (fun (m : Mark) ↦ decide (m.fst < m.snd.fst)) a →
 List.length ys ≤ maxLen ∧
 newM (IntKind.wrap IntKind.i64 ((0 : Int) + delta x.snd.fst)) ys =
 shiftM x.fst x.snd.fst)))))
theorem vcEq20 : fnVC E20 Try.f20 (bodyOf Try.f20) cShift = vc20 := by kernel_rfl
/- fn 23 -/
def hsO23 : List (Nat × Nat × Hint) := []
def nmO23 : List Nat := [1000250015, 3000000025, 3000000026, 3000000033, 3000000041]
noncomputable def EO23 : Env := envR tab [] [(24, Try.f24)] noGl hsO23 nmO23 []
def vcO23 : Prop :=
 ∀ (x : Option (Int × List (Int × Int × Int × Int × Unit) × Unit) × Unit),
 List.length (allM x.fst) ≤ (10000 : Nat) →
 (Option.isNone x.fst = true → [] = allM x.fst) ∧
 (Option.isNone x.fst = false →
 Option.isSome x.fst = true ∧
 ∀ (c : Bool),
 (c = true → List.length (List.getD (optL x.fst) (0 : Nat) (Ty.dflt t63)).snd.fst = (0 : Nat)) →
 (c = true → [] = allM x.fst) ∧
 (c = false →
 ((0 : Nat) + List.length (List.getD (optL x.fst) (0 : Nat) (Ty.dflt t63)).snd.fst) * (32 : Nat) ≤
 (140737488355328 : Nat) ∧
 (0 : Nat) + List.length (List.getD (optL x.fst) (0 : Nat) (Ty.dflt t63)).snd.fst ≤ maxLen ∧
 [] ++ (List.getD (optL x.fst) (0 : Nat) (Ty.dflt t63)).snd.fst = allM x.fst))
theorem vcEqO23 : fnVCO EO23 Try.f23 (bodyOf Try.f23) cAllO = vcO23 := by kernel_rfl
/- fn 33 -/
def hs33 : List (Nat × Nat × Hint) := [(0, 5, ⟨[.rowN 999999999 t60 60, .slot 5 t3, .slot 6 t3], [0, 1], [], []⟩),
  (420042, 2, ⟨[.slot 420050 t3], [420042, 420043, 420049, 0, 1, 5], [7], [999999999]⟩)]
def nm33 : List Nat := [2000000038, 2000000041, 3000000025, 3000000026, 3000000033, 3000000041]
noncomputable def E33 : Env := envR tab [] [(41, Try.f41), (34, Try.f34)] noGl hs33 nm33 []
def vc33 : Prop :=
 ∀ (xs : List (Int × Int × Int × Int × Unit)),
 List.length xs ≤ (10000 : Nat) →
 (((0 : Int) = (0 : Int) ∧
 True ∧
 Value.func (Fn.func (34 : FuncId)) #[] #[] = Value.func (Fn.func (34 : FuncId)) #[] #[] ∧
 (↑(List.length xs) : Int) = (↑(List.length xs) : Int) ∧
 True ∧ Value.func (Fn.func (34 : FuncId)) #[] #[] = Value.func (Fn.func (34 : FuncId)) #[] #[] ∧ True) ∧
 xs = xs ∧ True) ∧
 ∃ (Z : Int × Unit → Prop),
 ∃ (μ : Int × Unit → Nat),
 Z ((0 : Int), ()) ∧
 ∀ (a : Int),
 Z (a, ()) →
 (decide (a < (↑(List.length xs) : Int)) = true →
 ((0 : Int) ≤ a ∧ a < (↑(List.length xs) : Int)) ∧
 (decide
 ((List.getD xs (Int.toNat a) (Ty.dflt rDel.t)).fst ≥
 (List.getD xs (Int.toNat a) (Ty.dflt rDel.t)).snd.fst) =
 true →
 ((a == (-1 : Int)) = true →
 xs = List.filter (fun (m : Mark) ↦ decide (m.fst < m.snd.fst)) xs) ∧
 ((a == (-1 : Int)) = false →
 ((IntKind.wrap IntKind.i64 (a + (1 : Int)) = IntKind.wrap IntKind.i64 (a + (1 : Int)) ∧
 a = a ∧
 True ∧
 Value.func (Fn.func (34 : FuncId)) #[] #[] =
 Value.func (Fn.func (34 : FuncId)) #[] #[]) ∧
 xs = xs ∧ True) ∧
 ∃ (Z : List (Int × Int × Int × Int × Unit) × Int × Int × Unit → Prop),
 ∃ (μ : List (Int × Int × Int × Int × Unit) × Int × Int × Unit → Nat),
 Z (xs, a, IntKind.wrap IntKind.i64 (a + (1 : Int)), ()) ∧
 ∀ (a : List (Int × Int × Int × Int × Unit)) (a_5 a_6 : Int),
 Z (a, a_5, a_6, ()) →
 (decide (a_6 < (↑(List.length a) : Int)) = true →
 ((0 : Int) ≤ a_6 ∧ a_6 < (↑(List.length a) : Int)) ∧
 ((!decide
 ((List.getD a (Int.toNat a_6) (Ty.dflt t60)).fst ≥
 (List.getD a (Int.toNat a_6) (Ty.dflt t60)).snd.fst)) =
 true →
 ((0 : Int) ≤ a_5 ∧ a_5 < (↑(List.length a) : Int)) ∧
 ((IntKind.wrap IntKind.i64 (a_6 + (1 : Int)) =
 IntKind.wrap IntKind.i64 (a_6 + (1 : Int)) ∧
 IntKind.wrap IntKind.i64 (a_5 + (1 : Int)) =
 IntKind.wrap IntKind.i64 (a_5 + (1 : Int)) ∧
 True ∧
 Value.func (Fn.func (34 : FuncId)) #[] #[] =
 Value.func (Fn.func (34 : FuncId)) #[] #[]) ∧
 List.set a (Int.toNat a_5)
 (List.getD a (Int.toNat a_6) (Ty.dflt t60)) =
 List.set a (Int.toNat a_5)
 (List.getD a (Int.toNat a_6) (Ty.dflt t60)) ∧
 True) ∧
 Z
 (List.set a (Int.toNat a_5)
 (List.getD a (Int.toNat a_6) (Ty.dflt t60)),
 IntKind.wrap IntKind.i64 (a_5 + (1 : Int)),
 IntKind.wrap IntKind.i64 (a_6 + (1 : Int)), ()) ∧
 μ
 (List.set a (Int.toNat a_5)
 (List.getD a (Int.toNat a_6) (Ty.dflt t60)),
 IntKind.wrap IntKind.i64 (a_5 + (1 : Int)),
 IntKind.wrap IntKind.i64 (a_6 + (1 : Int)), ()) <
 μ (a, a_5, a_6, ())) ∧
 ((!decide
 ((List.getD a (Int.toNat a_6) (Ty.dflt t60)).fst ≥
 (List.getD a (Int.toNat a_6) (Ty.dflt t60)).snd.fst)) =
 false →
 ((IntKind.wrap IntKind.i64 (a_6 + (1 : Int)) =
 IntKind.wrap IntKind.i64 (a_6 + (1 : Int)) ∧
 a_5 = a_5 ∧
 True ∧
 Value.func (Fn.func (34 : FuncId)) #[] #[] =
 Value.func (Fn.func (34 : FuncId)) #[] #[]) ∧
 a = a ∧ True) ∧
 Z (a, a_5, IntKind.wrap IntKind.i64 (a_6 + (1 : Int)), ()) ∧
 μ (a, a_5, IntKind.wrap IntKind.i64 (a_6 + (1 : Int)), ()) <
 μ (a, a_5, a_6, ()))) ∧
 (decide (a_6 < (↑(List.length a) : Int)) = false →
 ((0 : Int) ≤ a_5 ∧ a_5 < (↑(List.length a) : Int)) ∧
 ((0 : Int) ≤ a_5 ∧
 a_5 ≤
 (↑(List.length
 (List.take (Int.toNat a_5) a ++
 List.replicate (List.length a - Int.toNat a_5)
 ((0 : Int), (0 : Int), (0 : Int), (0 : Int), ()))) :
 Int)) ∧
 List.take (Int.toNat a_5)
 (List.take (Int.toNat a_5) a ++
 List.replicate (List.length a - Int.toNat a_5)
 ((0 : Int), (0 : Int), (0 : Int), (0 : Int), ())) =
 List.filter (fun (m : Mark) ↦ decide (m.fst < m.snd.fst)) xs))) ∧
 (decide
 ((List.getD xs (Int.toNat a) (Ty.dflt rDel.t)).fst ≥
 (List.getD xs (Int.toNat a) (Ty.dflt rDel.t)).snd.fst) =
 false →
 ((IntKind.wrap IntKind.i64 (a + (1 : Int)) = IntKind.wrap IntKind.i64 (a + (1 : Int)) ∧
 True ∧
 Value.func (Fn.func (34 : FuncId)) #[] #[] =
 Value.func (Fn.func (34 : FuncId)) #[] #[] ∧
 (↑(List.length xs) : Int) = (↑(List.length xs) : Int) ∧
 True ∧
 Value.func (Fn.func (34 : FuncId)) #[] #[] =
 Value.func (Fn.func (34 : FuncId)) #[] #[] ∧
 True) ∧
 xs = xs ∧ True) ∧
 Z (IntKind.wrap IntKind.i64 (a + (1 : Int)), ()) ∧
 μ (IntKind.wrap IntKind.i64 (a + (1 : Int)), ()) < μ (a, ()))) ∧
 (decide (a < (↑(List.length xs) : Int)) = false →
 (((-1 : Int) == (-1 : Int)) = true →
 xs = List.filter (fun (m : Mark) ↦ decide (m.fst < m.snd.fst)) xs) ∧
 (((-1 : Int) == (-1 : Int)) = false →
 ((IntKind.wrap IntKind.i64 ((-1 : Int) + (1 : Int)) =
 IntKind.wrap IntKind.i64 ((-1 : Int) + (1 : Int)) ∧
 (-1 : Int) = (-1 : Int) ∧
 True ∧
 Value.func (Fn.func (34 : FuncId)) #[] #[] =
 Value.func (Fn.func (34 : FuncId)) #[] #[]) ∧
 xs = xs ∧ True) ∧
 ∃ (Z : List (Int × Int × Int × Int × Unit) × Int × Int × Unit → Prop),
 ∃ (μ : List (Int × Int × Int × Int × Unit) × Int × Int × Unit → Nat),
 Z (xs, (-1 : Int), IntKind.wrap IntKind.i64 ((-1 : Int) + (1 : Int)), ()) ∧
 ∀ (a : List (Int × Int × Int × Int × Unit)) (a_2 a_3 : Int),
 Z (a, a_2, a_3, ()) →
 (decide (a_3 < (↑(List.length a) : Int)) = true →
 ((0 : Int) ≤ a_3 ∧ a_3 < (↑(List.length a) : Int)) ∧
 ((!decide
 ((List.getD a (Int.toNat a_3) (Ty.dflt t60)).fst ≥
 (List.getD a (Int.toNat a_3) (Ty.dflt t60)).snd.fst)) =
 true →
 ((0 : Int) ≤ a_2 ∧ a_2 < (↑(List.length a) : Int)) ∧
 ((IntKind.wrap IntKind.i64 (a_3 + (1 : Int)) =
 IntKind.wrap IntKind.i64 (a_3 + (1 : Int)) ∧
 IntKind.wrap IntKind.i64 (a_2 + (1 : Int)) =
 IntKind.wrap IntKind.i64 (a_2 + (1 : Int)) ∧
 True ∧
 Value.func (Fn.func (34 : FuncId)) #[] #[] =
 Value.func (Fn.func (34 : FuncId)) #[] #[]) ∧
 List.set a (Int.toNat a_2)
 (List.getD a (Int.toNat a_3) (Ty.dflt t60)) =
 List.set a (Int.toNat a_2)
 (List.getD a (Int.toNat a_3) (Ty.dflt t60)) ∧
 True) ∧
 Z
 (List.set a (Int.toNat a_2)
 (List.getD a (Int.toNat a_3) (Ty.dflt t60)),
 IntKind.wrap IntKind.i64 (a_2 + (1 : Int)),
 IntKind.wrap IntKind.i64 (a_3 + (1 : Int)), ()) ∧
 μ
 (List.set a (Int.toNat a_2)
 (List.getD a (Int.toNat a_3) (Ty.dflt t60)),
 IntKind.wrap IntKind.i64 (a_2 + (1 : Int)),
 IntKind.wrap IntKind.i64 (a_3 + (1 : Int)), ()) <
 μ (a, a_2, a_3, ())) ∧
 ((!decide
 ((List.getD a (Int.toNat a_3) (Ty.dflt t60)).fst ≥
 (List.getD a (Int.toNat a_3) (Ty.dflt t60)).snd.fst)) =
 false →
 ((IntKind.wrap IntKind.i64 (a_3 + (1 : Int)) =
 IntKind.wrap IntKind.i64 (a_3 + (1 : Int)) ∧
 a_2 = a_2 ∧
 True ∧
 Value.func (Fn.func (34 : FuncId)) #[] #[] =
 Value.func (Fn.func (34 : FuncId)) #[] #[]) ∧
 a = a ∧ True) ∧
 Z (a, a_2, IntKind.wrap IntKind.i64 (a_3 + (1 : Int)), ()) ∧
 μ (a, a_2, IntKind.wrap IntKind.i64 (a_3 + (1 : Int)), ()) <
 μ (a, a_2, a_3, ()))) ∧
 (decide (a_3 < (↑(List.length a) : Int)) = false →
 ((0 : Int) ≤ a_2 ∧ a_2 < (↑(List.length a) : Int)) ∧
 ((0 : Int) ≤ a_2 ∧
 a_2 ≤
 (↑(List.length
 (List.take (Int.toNat a_2) a ++
 List.replicate (List.length a - Int.toNat a_2)
 ((0 : Int), (0 : Int), (0 : Int), (0 : Int), ()))) :
 Int)) ∧
 List.take (Int.toNat a_2)
 (List.take (Int.toNat a_2) a ++
 List.replicate (List.length a - Int.toNat a_2)
 ((0 : Int), (0 : Int), (0 : Int), (0 : Int), ())) =
 List.filter (fun (m : Mark) ↦ decide (m.fst < m.snd.fst)) xs)))
theorem vcEq33 : fnVCR E33 Try.f33 (bodyOf Try.f33) rDel = vc33 := by kernel_rfl
end Go.Fr.C40
