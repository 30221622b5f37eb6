/-
  Conditions to be proved, function by function, printed by a program. Conditions: none.
-/
import Derived.Test.YtmjhpfbpidlbcaaC15A
namespace Go.Fr.C15
open Go Go.Fr Go.Proofs
set_option maxRecDepth 100000

/- fn 9 -/
def hs9 : List (Nat × Nat × Hint) := [(0, 7, ⟨[.slot 29 t3, .cell 26 0 (mapT t33 t62)], [0, 1, 6, 27, 28], [26], []⟩),
  (0, 19, ⟨[.slot 72 t3, .rowC 61 2 900000001 t33 33], [11, 70, 71], [61], [59]⟩)]
def nm9 : List Nat := [2000000060, 3000000027, 3000000033, 3000000044, 4000000024]
noncomputable def E9 : Env := envR tab [(25, cFits), (26, cCloneO), (28, cOrder)] [] noGl hs9 nm9 [(27, rSort)]
def vc9 : Prop :=
 ∀ (x : Int × List Span × Unit),
 List.length x.snd.fst ≤ maxLen →
 (decide (x.fst < (0 : Int)) = true → (none, (1 : Int), ()) = newF x.fst x.snd.fst) ∧
 (decide (x.fst < (0 : Int)) = false →
 (decide (x.fst > (1099511627776 : Int)) = true → (none, (1 : Int), ()) = newF x.fst x.snd.fst) ∧
 (decide (x.fst > (1099511627776 : Int)) = false →
 (decide ((↑(List.length x.snd.fst) : Int) > (60 : Int)) = true →
 (none, (5 : Int), ()) = newF x.fst x.snd.fst) ∧
 (decide ((↑(List.length x.snd.fst) : Int) > (60 : Int)) = false →
 (((0 : Int) = (0 : Int) ∧
 x.fst = x.fst ∧
 x.snd.fst = x.snd.fst ∧
 True ∧
 x.snd.fst = x.snd.fst ∧
 (↑(List.length x.snd.fst) : Int) = (↑(List.length x.snd.fst) : Int)) ∧
 ([] : List (Span × Unit × Unit)) = [] ∧ True) ∧
 ∃ (Z : Int × List (Span × Unit × Unit) × Unit → Prop),
 ∃ (μ : Int × List (Span × Unit × Unit) × Unit → Nat),
 Z ((0 : Int), [], ()) ∧
 ∀ (a : Int) (a_1 : List (Span × Unit × Unit)),
 Z (a, a_1, ()) →
 (decide (a < (↑(List.length x.snd.fst) : Int)) = true →
 ((0 : Int) ≤ a ∧ a < (↑(List.length x.snd.fst) : Int)) ∧
 True ∧
 ((!fitsF (List.getD x.snd.fst (Int.toNat a) (Ty.dflt t33)) x.fst) = true →
 (none, (1 : Int), ()) = newF x.fst x.snd.fst) ∧
 ((!fitsF (List.getD x.snd.fst (Int.toNat a) (Ty.dflt t33)) x.fst) = false →
 (Ty.beq t33 (List.getD x.snd.fst (Int.toNat a) (Ty.dflt t33))
 ((List.getD x.snd.fst (Int.toNat a) (Ty.dflt t33)).snd.fst,
 (List.getD x.snd.fst (Int.toNat a) (Ty.dflt t33)).snd) =
 true →
 (none, (1 : Int), ()) = newF x.fst x.snd.fst) ∧
 (Ty.beq t33 (List.getD x.snd.fst (Int.toNat a) (Ty.dflt t33))
 ((List.getD x.snd.fst (Int.toNat a) (Ty.dflt t33)).snd.fst,
 (List.getD x.snd.fst (Int.toNat a) (Ty.dflt t33)).snd) =
 false →
 (Option.isSome
 (mget t33 t62 (List.getD x.snd.fst (Int.toNat a) (Ty.dflt t33))
 a_1) =
 true →
 (none, (8 : Int), ()) = newF x.fst x.snd.fst) ∧
 (Option.isSome
 (mget t33 t62 (List.getD x.snd.fst (Int.toNat a) (Ty.dflt t33))
 a_1) =
 false →
 mget t33 t62 (List.getD x.snd.fst (Int.toNat a) (Ty.dflt t33)) a_1 =
 none ∧
 ((IntKind.wrap IntKind.i64 (a + (1 : Int)) =
 IntKind.wrap IntKind.i64 (a + (1 : Int)) ∧
 x.fst = x.fst ∧
 x.snd.fst = x.snd.fst ∧
 True ∧
 x.snd.fst = x.snd.fst ∧
 (↑(List.length x.snd.fst) : Int) =
 (↑(List.length x.snd.fst) : Int)) ∧
 a_1 ++
 [(List.getD x.snd.fst (Int.toNat a) (Ty.dflt t33), (),
 ())] =
 a_1 ++
 [(List.getD x.snd.fst (Int.toNat a) (Ty.dflt t33), (),
 ())] ∧
 True) ∧
 Z
 (IntKind.wrap IntKind.i64 (a + (1 : Int)),
 a_1 ++
 [(List.getD x.snd.fst (Int.toNat a) (Ty.dflt t33), (), ())],
 ()) ∧
 μ
 (IntKind.wrap IntKind.i64 (a + (1 : Int)),
 a_1 ++
 [(List.getD x.snd.fst (Int.toNat a) (Ty.dflt t33), (),
 ())],
 ()) <
 μ (a, a_1, ()))))) ∧
 (decide (a < (↑(List.length x.snd.fst) : Int)) = false →
 List.length x.snd.fst ≤ (10000 : Nat) ∧
 List.length x.snd.fst ≤ (100000 : Nat) ∧
 ∀ (ys : List Span),
 (ys =
 List.mergeSort x.snd.fst fun (x y : Span) ↦ !decide (cmpS y x < (0 : Int))) →
 (((0 : Int) = (0 : Int) ∧
 True ∧ True ∧ (↑(List.length ys) : Int) = (↑(List.length ys) : Int)) ∧
 (x.fst = x.fst ∧ True ∧ True) ∧ True ∧ ys = ys ∧ True) ∧
 ∃ (Z : Int × List Span × Unit → Prop),
 ∃ (μ : Int × List Span × Unit → Nat),
 Z ((0 : Int), [], ()) ∧
 ∀ (a : Int) (a_3 : List Span),
 Z (a, a_3, ()) →
 (decide (a < (↑(List.length ys) : Int)) = true →
 ((0 : Int) ≤ a ∧ a < (↑(List.length ys) : Int)) ∧
 (decide
 (IntKind.wrap IntKind.i64
 ((↑(List.length a_3) : Int) - (1 : Int)) ≥
 (0 : Int)) =
 true →
 ((0 : Int) ≤
 IntKind.wrap IntKind.i64
 ((↑(List.length a_3) : Int) - (1 : Int)) ∧
 IntKind.wrap IntKind.i64
 ((↑(List.length a_3) : Int) - (1 : Int)) <
 (↑(List.length a_3) : Int)) ∧
 (decide
 ((List.getD ys (Int.toNat a)
 (Ty.dflt rSort.t)).fst <
 (List.getD a_3
 (Int.toNat
 (IntKind.wrap IntKind.i64
 ((↑(List.length a_3) : Int) -
 (1 : Int))))
 (Ty.dflt t33)).snd.fst) =
 true →
 ((0 : Int) ≤
 IntKind.wrap IntKind.i64
 ((↑(List.length a_3) : Int) - (1 : Int)) ∧
 IntKind.wrap IntKind.i64
 ((↑(List.length a_3) : Int) - (1 : Int)) <
 (↑(List.length a_3) : Int)) ∧
 ((0 : Int) ≤
 IntKind.wrap IntKind.i64
 ((↑(List.length a_3) : Int) - (1 : Int)) ∧
 IntKind.wrap IntKind.i64
 ((↑(List.length a_3) : Int) - (1 : Int)) <
 (↑(List.length a_3) : Int)) ∧
 ((IntKind.wrap IntKind.i64 (a + (1 : Int)) =
 IntKind.wrap IntKind.i64
 (a + (1 : Int)) ∧
 True ∧
 True ∧
 (↑(List.length ys) : Int) =
 (↑(List.length ys) : Int)) ∧
 (x.fst = x.fst ∧ True ∧ True) ∧
 List.set a_3
 (Int.toNat
 (IntKind.wrap IntKind.i64
 ((↑(List.length a_3) : Int) -
 (1 : Int))))
 ((List.getD a_3
 (Int.toNat
 (IntKind.wrap IntKind.i64
 ((↑(List.length a_3) :
 Int) -
 (1 : Int))))
 (Ty.dflt t33)).fst,
 if
 (List.getD a_3
 (Int.toNat
 (IntKind.wrap
 IntKind.i64
 ((↑(List.length
 a_3) :
 Int) -
 (1 : Int))))
 (Ty.dflt
 t33)).snd.fst <
 (List.getD ys (Int.toNat a)
 (Ty.dflt
 rSort.t)).snd.fst then
 (List.getD ys (Int.toNat a)
 (Ty.dflt rSort.t)).snd.fst
 else
 (List.getD a_3
 (Int.toNat
 (IntKind.wrap
 IntKind.i64
 ((↑(List.length a_3) :
 Int) -
 (1 : Int))))
 (Ty.dflt t33)).snd.fst,
 ()) =
 List.set a_3
 (Int.toNat
 (IntKind.wrap IntKind.i64
 ((↑(List.length a_3) : Int) -
 (1 : Int))))
 ((List.getD a_3
 (Int.toNat
 (IntKind.wrap IntKind.i64
 ((↑(List.length a_3) :
 Int) -
 (1 : Int))))
 (Ty.dflt t33)).fst,
 if
 (List.getD a_3
 (Int.toNat
 (IntKind.wrap
 IntKind.i64
 ((↑(List.length
 a_3) :
 Int) -
 (1 : Int))))
 (Ty.dflt
 t33)).snd.fst <
 (List.getD ys (Int.toNat a)
 (Ty.dflt
 rSort.t)).snd.fst then
 (List.getD ys (Int.toNat a)
 (Ty.dflt rSort.t)).snd.fst
 else
 (List.getD a_3
 (Int.toNat
 (IntKind.wrap
 IntKind.i64
 ((↑(List.length a_3) :
 Int) -
 (1 : Int))))
 (Ty.dflt t33)).snd.fst,
 ()) ∧
 ys = ys ∧ True) ∧
 Z
 (IntKind.wrap IntKind.i64 (a + (1 : Int)),
 List.set a_3
 (Int.toNat
 (IntKind.wrap IntKind.i64
 ((↑(List.length a_3) : Int) -
 (1 : Int))))
 ((List.getD a_3
 (Int.toNat
 (IntKind.wrap IntKind.i64
 ((↑(List.length a_3) :
 Int) -
 (1 : Int))))
 (Ty.dflt t33)).fst,
 if
 (List.getD a_3
 (Int.toNat
 (IntKind.wrap
 IntKind.i64
 ((↑(List.length
 a_3) :
 Int) -
 (1 : Int))))
 (Ty.dflt t33)).snd.fst <
 (List.getD ys (Int.toNat a)
 (Ty.dflt
 rSort.t)).snd.fst then
 (List.getD ys (Int.toNat a)
 (Ty.dflt rSort.t)).snd.fst
 else
 (List.getD a_3
 (Int.toNat
 (IntKind.wrap IntKind.i64
 ((↑(List.length a_3) :
 Int) -
 (1 : Int))))
 (Ty.dflt t33)).snd.fst,
 ()),
 ()) ∧
 μ
 (IntKind.wrap IntKind.i64
 (a + (1 : Int)),
 List.set a_3
 (Int.toNat
 (IntKind.wrap IntKind.i64
 ((↑(List.length a_3) : Int) -
 (1 : Int))))
 ((List.getD a_3
 (Int.toNat
 (IntKind.wrap IntKind.i64
 ((↑(List.length a_3) :
 Int) -
 (1 : Int))))
 (Ty.dflt t33)).fst,
 if
 (List.getD a_3
 (Int.toNat
 (IntKind.wrap
 IntKind.i64
 ((↑(List.length
 a_3) :
 Int) -
 (1 : Int))))
 (Ty.dflt
 t33)).snd.fst <
 (List.getD ys (Int.toNat a)
 (Ty.dflt
 rSort.t)).snd.fst then
 (List.getD ys (Int.toNat a)
 (Ty.dflt rSort.t)).snd.fst
 else
 (List.getD a_3
 (Int.toNat
 (IntKind.wrap
 IntKind.i64
 ((↑(List.length a_3) :
 Int) -
 (1 : Int))))
 (Ty.dflt t33)).snd.fst,
 ()),
 ()) <
 μ (a, a_3, ())) ∧
 (decide
 ((List.getD ys (Int.toNat a)
 (Ty.dflt rSort.t)).fst <
 (List.getD a_3
 (Int.toNat
 (IntKind.wrap IntKind.i64
 ((↑(List.length a_3) : Int) -
 (1 : Int))))
 (Ty.dflt t33)).snd.fst) =
 false →
 ((List.length a_3 +
 List.length
 [List.getD ys (Int.toNat a)
 (Ty.dflt rSort.t)]) *
 (16 : Nat) ≤
 (140737488355328 : Nat) ∧
 List.length a_3 +
 List.length
 [List.getD ys (Int.toNat a)
 (Ty.dflt rSort.t)] ≤
 maxLen ∧
 ((IntKind.wrap IntKind.i64 (a + (1 : Int)) =
 IntKind.wrap IntKind.i64
 (a + (1 : Int)) ∧
 True ∧
 True ∧
 (↑(List.length ys) : Int) =
 (↑(List.length ys) : Int)) ∧
 (x.fst = x.fst ∧ True ∧ True) ∧
 a_3 ++
 [List.getD ys (Int.toNat a)
 (Ty.dflt rSort.t)] =
 a_3 ++
 [List.getD ys (Int.toNat a)
 (Ty.dflt rSort.t)] ∧
 ys = ys ∧ True) ∧
 Z
 (IntKind.wrap IntKind.i64
 (a + (1 : Int)),
 a_3 ++
 [List.getD ys (Int.toNat a)
 (Ty.dflt rSort.t)],
 ()) ∧
 μ
 (IntKind.wrap IntKind.i64
 (a + (1 : Int)),
 a_3 ++
 [List.getD ys (Int.toNat a)
 (Ty.dflt rSort.t)],
 ()) <
 μ (a, a_3, ())) ∧
 ((List.length a_3 +
 List.length
 [List.getD ys (Int.toNat a)
 (Ty.dflt rSort.t)]) *
 (16 : Nat) ≤
 (140737488355328 : Nat) ∧
 List.length a_3 +
 List.length
 [List.getD ys (Int.toNat a)
 (Ty.dflt rSort.t)] ≤
 maxLen ∧
 ((IntKind.wrap IntKind.i64 (a + (1 : Int)) =
 IntKind.wrap IntKind.i64
 (a + (1 : Int)) ∧
 True ∧
 True ∧
 (↑(List.length ys) : Int) =
 (↑(List.length ys) : Int)) ∧
 (x.fst = x.fst ∧ True ∧ True) ∧
 a_3 ++
 [List.getD ys (Int.toNat a)
 (Ty.dflt rSort.t)] =
 a_3 ++
 [List.getD ys (Int.toNat a)
 (Ty.dflt rSort.t)] ∧
 ys = ys ∧ True) ∧
 Z
 (IntKind.wrap IntKind.i64
 (a + (1 : Int)),
 a_3 ++
 [List.getD ys (Int.toNat a)
 (Ty.dflt rSort.t)],
 ()) ∧
 μ
 (IntKind.wrap IntKind.i64
 (a + (1 : Int)),
 a_3 ++
 [List.getD ys (Int.toNat a)
 (Ty.dflt rSort.t)],
 ()) <
 μ (a, a_3, ())) ∧
 (List.length a_3 +
 List.length
 [List.getD ys (Int.toNat a)
 (Ty.dflt rSort.t)]) *
 (16 : Nat) ≤
 (140737488355328 : Nat) ∧
 List.length a_3 +
 List.length
 [List.getD ys (Int.toNat a)
 (Ty.dflt rSort.t)] ≤
 maxLen ∧
 ((IntKind.wrap IntKind.i64 (a + (1 : Int)) =
 IntKind.wrap IntKind.i64
 (a + (1 : Int)) ∧
 True ∧
 True ∧
 (↑(List.length ys) : Int) =
 (↑(List.length ys) : Int)) ∧
 (x.fst = x.fst ∧ True ∧ True) ∧
 a_3 ++
 [List.getD ys (Int.toNat a)
 (Ty.dflt rSort.t)] =
 a_3 ++
 [List.getD ys (Int.toNat a)
 (Ty.dflt rSort.t)] ∧
 ys = ys ∧ True) ∧
 Z
 (IntKind.wrap IntKind.i64
 (a + (1 : Int)),
 a_3 ++
 [List.getD ys (Int.toNat a)
 (Ty.dflt rSort.t)],
 ()) ∧
 μ
 (IntKind.wrap IntKind.i64
 (a + (1 : Int)),
 a_3 ++
 [List.getD ys (Int.toNat a)
 (Ty.dflt rSort.t)],
 ()) <
 μ (a, a_3, ()))) ∧
 (decide
 (IntKind.wrap IntKind.i64
 ((↑(List.length a_3) : Int) - (1 : Int)) ≥
 (0 : Int)) =
 false →
 ((List.length a_3 +
 List.length
 [List.getD ys (Int.toNat a)
 (Ty.dflt rSort.t)]) *
 (16 : Nat) ≤
 (140737488355328 : Nat) ∧
 List.length a_3 +
 List.length
 [List.getD ys (Int.toNat a)
 (Ty.dflt rSort.t)] ≤
 maxLen ∧
 ((IntKind.wrap IntKind.i64 (a + (1 : Int)) =
 IntKind.wrap IntKind.i64 (a + (1 : Int)) ∧
 True ∧
 True ∧
 (↑(List.length ys) : Int) =
 (↑(List.length ys) : Int)) ∧
 (x.fst = x.fst ∧ True ∧ True) ∧
 a_3 ++
 [List.getD ys (Int.toNat a)
 (Ty.dflt rSort.t)] =
 a_3 ++
 [List.getD ys (Int.toNat a)
 (Ty.dflt rSort.t)] ∧
 ys = ys ∧ True) ∧
 Z
 (IntKind.wrap IntKind.i64 (a + (1 : Int)),
 a_3 ++
 [List.getD ys (Int.toNat a)
 (Ty.dflt rSort.t)],
 ()) ∧
 μ
 (IntKind.wrap IntKind.i64 (a + (1 : Int)),
 a_3 ++
 [List.getD ys (Int.toNat a)
 (Ty.dflt rSort.t)],
 ()) <
 μ (a, a_3, ())) ∧
 ((List.length a_3 +
 List.length
 [List.getD ys (Int.toNat a)
 (Ty.dflt rSort.t)]) *
 (16 : Nat) ≤
 (140737488355328 : Nat) ∧
 List.length a_3 +
 List.length
 [List.getD ys (Int.toNat a)
 (Ty.dflt rSort.t)] ≤
 maxLen ∧
 ((IntKind.wrap IntKind.i64 (a + (1 : Int)) =
 IntKind.wrap IntKind.i64 (a + (1 : Int)) ∧
 True ∧
 True ∧
 (↑(List.length ys) : Int) =
 (↑(List.length ys) : Int)) ∧
 (x.fst = x.fst ∧ True ∧ True) ∧
 a_3 ++
 [List.getD ys (Int.toNat a)
 (Ty.dflt rSort.t)] =
 a_3 ++
 [List.getD ys (Int.toNat a)
 (Ty.dflt rSort.t)] ∧
 ys = ys ∧ True) ∧
 Z
 (IntKind.wrap IntKind.i64 (a + (1 : Int)),
 a_3 ++
 [List.getD ys (Int.toNat a)
 (Ty.dflt rSort.t)],
 ()) ∧
 μ
 (IntKind.wrap IntKind.i64 (a + (1 : Int)),
 a_3 ++
 [List.getD ys (Int.toNat a)
 (Ty.dflt rSort.t)],
 ()) <
 μ (a, a_3, ())) ∧
 (List.length a_3 +
 List.length
 [List.getD ys (Int.toNat a)
 (Ty.dflt rSort.t)]) *
 (16 : Nat) ≤
 (140737488355328 : Nat) ∧
 List.length a_3 +
 List.length
 [List.getD ys (Int.toNat a)
 (Ty.dflt rSort.t)] ≤
 maxLen ∧
 ((IntKind.wrap IntKind.i64 (a + (1 : Int)) =
 IntKind.wrap IntKind.i64 (a + (1 : Int)) ∧
 True ∧
 True ∧
 (↑(List.length ys) : Int) =
 (↑(List.length ys) : Int)) ∧
 (x.fst = x.fst ∧ True ∧ True) ∧
 a_3 ++
 [List.getD ys (Int.toNat a)
 (Ty.dflt rSort.t)] =
 a_3 ++
 [List.getD ys (Int.toNat a)
 (Ty.dflt rSort.t)] ∧
 ys = ys ∧ True) ∧
 Z
 (IntKind.wrap IntKind.i64 (a + (1 : Int)),
 a_3 ++
 [List.getD ys (Int.toNat a)
 (Ty.dflt rSort.t)],
 ()) ∧
 μ
 (IntKind.wrap IntKind.i64 (a + (1 : Int)),
 a_3 ++
 [List.getD ys (Int.toNat a)
 (Ty.dflt rSort.t)],
 ()) <
 μ (a, a_3, ()))) ∧
 (decide (a < (↑(List.length ys) : Int)) = false →
 (some (x.fst, ys, a_3, ()), (0 : Int), ()) =
 newF x.fst x.snd.fst)))))
theorem vcEq9 : fnVC E9 Try.f9 (bodyOf Try.f9) cNew = vc9 := by kernel_rfl
/- fn 16 -/
def hsO16 : List (Nat × Nat × Hint) := []
def nmO16 : List Nat := [3000000027, 3000000033, 3000000044]
noncomputable def EO16 : Env := envR tab [(26, cCloneO)] [] noGl hsO16 nmO16 []
def vcO16 : Prop :=
 ∀ (x : Option (Int × List Span × List Span × Unit) × Unit),
 List.length (allF x.fst) ≤ (10000 : Nat) →
 (Option.isNone x.fst = true → [] = allF x.fst) ∧
 (Option.isNone x.fst = false →
 Option.isSome x.fst = true ∧
 List.length (List.getD (optL x.fst) (0 : Nat) (Ty.dflt t66)).snd.fst ≤ (10000 : Nat) ∧
 (List.getD (optL x.fst) (0 : Nat) (Ty.dflt t66)).snd.fst = allF x.fst)
theorem vcEqO16 : fnVCO EO16 Try.f16 (bodyOf Try.f16) cAllO = vcO16 := by kernel_rfl
/- fn 17 -/
def hs17 : List (Nat × Nat × Hint) := []
def nm17 : List Nat := [3000000027, 3000000033, 3000000044, 4000000001]
noncomputable def E17 : Env := env tab [(23, cLen), (16, cAllO), (9, cNew)] [] noGl hs17 nm17
def vc17 : Prop :=
 ∀ (x : Option (Int × List Span × List Span × Unit) × Span × Unit),
 List.length (allF x.fst) ≤ (10000 : Nat) →
 (True ∧
 (List.length (allF x.fst) ≤ (10000 : Nat) ∧
 (List.length (allF x.fst) + List.length [x.snd.fst]) * (16 : Nat) ≤ (140737488355328 : Nat) ∧
 List.length (allF x.fst) + List.length [x.snd.fst] ≤ maxLen ∧
 List.length (allF x.fst ++ [x.snd.fst]) ≤ maxLen ∧
 newF (lenF x.fst) (allF x.fst ++ [x.snd.fst]) = newF (lenF x.fst) (allF x.fst ++ [x.snd.fst])) ∧
 (List.length (allF x.fst) ≤ (10000 : Nat) ∧
 (List.length (allF x.fst) + List.length [x.snd.fst]) * (16 : Nat) ≤ (140737488355328 : Nat) ∧
 List.length (allF x.fst) + List.length [x.snd.fst] ≤ maxLen ∧
 List.length (allF x.fst ++ [x.snd.fst]) ≤ maxLen ∧
 newF (lenF x.fst) (allF x.fst ++ [x.snd.fst]) = newF (lenF x.fst) (allF x.fst ++ [x.snd.fst])) ∧
 List.length (allF x.fst) ≤ (10000 : Nat) ∧
 (List.length (allF x.fst) + List.length [x.snd.fst]) * (16 : Nat) ≤ (140737488355328 : Nat) ∧
 List.length (allF x.fst) + List.length [x.snd.fst] ≤ maxLen ∧
 List.length (allF x.fst ++ [x.snd.fst]) ≤ maxLen ∧
 newF (lenF x.fst) (allF x.fst ++ [x.snd.fst]) = newF (lenF x.fst) (allF x.fst ++ [x.snd.fst])) ∧
 (True ∧
 (List.length (allF x.fst) ≤ (10000 : Nat) ∧
 (List.length (allF x.fst) + List.length [x.snd.fst]) * (16 : Nat) ≤ (140737488355328 : Nat) ∧
 List.length (allF x.fst) + List.length [x.snd.fst] ≤ maxLen ∧
 List.length (allF x.fst ++ [x.snd.fst]) ≤ maxLen ∧
 newF (lenF x.fst) (allF x.fst ++ [x.snd.fst]) = newF (lenF x.fst) (allF x.fst ++ [x.snd.fst])) ∧
 List.length (allF x.fst) ≤ (10000 : Nat) ∧
 (List.length (allF x.fst) + List.length [x.snd.fst]) * (16 : Nat) ≤ (140737488355328 : Nat) ∧
 List.length (allF x.fst) + List.length [x.snd.fst] ≤ maxLen ∧
 List.length (allF x.fst ++ [x.snd.fst]) ≤ maxLen ∧
 newF (lenF x.fst) (allF x.fst ++ [x.snd.fst]) = newF (lenF x.fst) (allF x.fst ++ [x.snd.fst])) ∧
 True ∧
 List.length (allF x.fst) ≤ (10000 : Nat) ∧
 (List.length (allF x.fst) + List.length [x.snd.fst]) * (16 : Nat) ≤ (140737488355328 : Nat) ∧
 List.length (allF x.fst) + List.length [x.snd.fst] ≤ maxLen ∧
 List.length (allF x.fst ++ [x.snd.fst]) ≤ maxLen ∧
 newF (lenF x.fst) (allF x.fst ++ [x.snd.fst]) = newF (lenF x.fst) (allF x.fst ++ [x.snd.fst])
theorem vcEq17 : fnVC E17 Try.f17 (bodyOf Try.f17) cAdd = vc17 := by kernel_rfl
/- fn 19 -/
def hs19 : List (Nat × Nat × Hint) := [(340036, 5, ⟨[.rowN 19 t33 33, .slot 340041 t3, .slot 340042 t3], [340036, 340037, 0, 7, 8], [3], [17]⟩),
  (790078, 2, ⟨[.slot 790086 t3], [790078, 790079, 790085, 340036, 340037, 340041, 0, 7, 8], [340043, 3], [17, 19]⟩)]
def nm19 : List Nat := [2000340074, 2000340077, 3000000027, 3000000033, 3000000044]
noncomputable def E19 : Env := env tab [(23, cLen), (25, cFits), (16, cAllO), (9, cNew)] [(34, Try.f34), (33, Try.f33), (44, Try.f44)] noGl hs19 nm19
def vc19 : Prop :=
 ∀ (x : Option (Int × List Span × List Span × Unit) × Span × Unit),
 List.length (allF x.fst) ≤ (10000 : Nat) →
 True ∧
 True ∧
 ((!fitsF x.snd.fst (lenF x.fst)) = true → (none, (0 : Int), (1 : Int), ()) = removeF x.fst x.snd.fst) ∧
 ((!fitsF x.snd.fst (lenF x.fst)) = false →
 List.length (allF x.fst) ≤ (10000 : Nat) ∧
 List.length (allF x.fst) ≤ (10000 : Nat) ∧
 (((0 : Int) = (0 : Int) ∧
 True ∧
 True ∧
 (↑(List.length (allF x.fst)) : Int) = (↑(List.length (allF x.fst)) : Int) ∧
 True ∧ True ∧ True ∧ x.fst = x.fst ∧ True ∧ True) ∧
 (x.snd.fst.fst = x.snd.fst.fst ∧ x.snd.fst.snd.fst = x.snd.fst.snd.fst) ∧
 allF x.fst = allF x.fst ∧ allF x.fst = allF x.fst ∧ True) ∧
 ∃ (Z : Int × Unit → Prop),
 ∃ (μ : Int × Unit → Nat),
 Z ((0 : Int), ()) ∧
 ∀ (a : Int),
 Z (a, ()) →
 (decide (a < (↑(List.length (allF x.fst)) : Int)) = true →
 ((0 : Int) ≤ a ∧ a < (↑(List.length (allF x.fst)) : Int)) ∧
 (decide
 ((List.getD (allF x.fst) (Int.toNat a) (Ty.dflt t33)).fst ≤
 x.snd.fst.snd.fst) =
 true →
 (decide
 (x.snd.fst.fst ≤
 (List.getD (allF x.fst) (Int.toNat a) (Ty.dflt t33)).snd.fst) =
 true →
 ((a == (-1 : Int)) = true →
 True ∧
 List.length (allF x.fst) ≤ maxLen ∧
 ((newF (lenF x.fst) (allF x.fst)).fst,
 IntKind.wrap IntKind.i64
 ((↑(List.length (allF x.fst)) : Int) -
 (↑(List.length (allF x.fst)) : Int)),
 (newF (lenF x.fst) (allF x.fst)).snd) =
 removeF x.fst x.snd.fst) ∧
 ((a == (-1 : Int)) = false →
 ((IntKind.wrap IntKind.i64 (a + (1 : Int)) =
 IntKind.wrap IntKind.i64 (a + (1 : Int)) ∧
 a = a ∧ True ∧ True ∧ x.fst = x.fst ∧ True ∧ True) ∧
 (x.snd.fst.fst = x.snd.fst.fst ∧
 x.snd.fst.snd.fst = x.snd.fst.snd.fst) ∧
 allF x.fst = allF x.fst ∧ allF x.fst = allF x.fst ∧ True) ∧
 ∃ (Z : List Span × Int × Int × Unit → Prop),
 ∃ (μ : List Span × Int × Int × Unit → Nat),
 Z (allF x.fst, a, IntKind.wrap IntKind.i64 (a + (1 : Int)), ()) ∧
 ∀ (a : List Span) (a_6 a_7 : Int),
 Z (a, a_6, a_7, ()) →
 (decide (a_7 < (↑(List.length a) : Int)) = true →
 ((0 : Int) ≤ a_7 ∧ a_7 < (↑(List.length a) : Int)) ∧
 (decide
 ((List.getD a (Int.toNat a_7)
 (Ty.dflt t33)).fst ≤
 x.snd.fst.snd.fst) =
 true →
 ((!decide
 (x.snd.fst.fst ≤
 (List.getD a (Int.toNat a_7)
 (Ty.dflt t33)).snd.fst)) =
 true →
 ((0 : Int) ≤ a_6 ∧
 a_6 < (↑(List.length a) : Int)) ∧
 ((IntKind.wrap IntKind.i64 (a_7 + (1 : Int)) =
 IntKind.wrap IntKind.i64
 (a_7 + (1 : Int)) ∧
 IntKind.wrap IntKind.i64
 (a_6 + (1 : Int)) =
 IntKind.wrap IntKind.i64
 (a_6 + (1 : Int)) ∧
 True ∧
 True ∧
 x.fst = x.fst ∧ True ∧ True) ∧
 (x.snd.fst.fst = x.snd.fst.fst ∧
 x.snd.fst.snd.fst =
 x.snd.fst.snd.fst) ∧
 List.set a (Int.toNat a_6)
 (List.getD a (Int.toNat a_7)
 (Ty.dflt t33)) =
 List.set a (Int.toNat a_6)
 (List.getD a (Int.toNat a_7)
 (Ty.dflt t33)) ∧
 allF x.fst = allF x.fst ∧ True) ∧
 Z
 (List.set a (Int.toNat a_6)
 (List.getD a (Int.toNat a_7)
 (Ty.dflt t33)),
 IntKind.wrap IntKind.i64
 (a_6 + (1 : Int)),
 IntKind.wrap IntKind.i64
 (a_7 + (1 : Int)),
 ()) ∧
 μ
 (List.set a (Int.toNat a_6)
 (List.getD a (Int.toNat a_7)
 (Ty.dflt t33)),
 IntKind.wrap IntKind.i64
 (a_6 + (1 : Int)),
 IntKind.wrap IntKind.i64
 (a_7 + (1 : Int)),
 ()) <
 μ (a, a_6, a_7, ())) ∧
 ((!decide
 (x.snd.fst.fst ≤
 (List.getD a (Int.toNat a_7)
 (Ty.dflt t33)).snd.fst)) =
 false →
 ((IntKind.wrap IntKind.i64 (a_7 + (1 : Int)) =
 IntKind.wrap IntKind.i64
 (a_7 + (1 : Int)) ∧
 a_6 = a_6 ∧
 True ∧
 True ∧ x.fst = x.fst ∧ True ∧ True) ∧
 (x.snd.fst.fst = x.snd.fst.fst ∧
 x.snd.fst.snd.fst = x.snd.fst.snd.fst) ∧
 a = a ∧ allF x.fst = allF x.fst ∧ True) ∧
 Z
 (a, a_6,
 IntKind.wrap IntKind.i64
 (a_7 + (1 : Int)),
 ()) ∧
 μ
 (a, a_6,
 IntKind.wrap IntKind.i64
 (a_7 + (1 : Int)),
 ()) <
 μ (a, a_6, a_7, ()))) ∧
 (decide
 ((List.getD a (Int.toNat a_7)
 (Ty.dflt t33)).fst ≤
 x.snd.fst.snd.fst) =
 false →
 ((!false) = true →
 ((0 : Int) ≤ a_6 ∧
 a_6 < (↑(List.length a) : Int)) ∧
 ((IntKind.wrap IntKind.i64 (a_7 + (1 : Int)) =
 IntKind.wrap IntKind.i64
 (a_7 + (1 : Int)) ∧
 IntKind.wrap IntKind.i64
 (a_6 + (1 : Int)) =
 IntKind.wrap IntKind.i64
 (a_6 + (1 : Int)) ∧
 True ∧
 True ∧
 x.fst = x.fst ∧ True ∧ True) ∧
 (x.snd.fst.fst = x.snd.fst.fst ∧
 x.snd.fst.snd.fst =
 x.snd.fst.snd.fst) ∧
 List.set a (Int.toNat a_6)
 (List.getD a (Int.toNat a_7)
 (Ty.dflt t33)) =
 List.set a (Int.toNat a_6)
 (List.getD a (Int.toNat a_7)
 (Ty.dflt t33)) ∧
 allF x.fst = allF x.fst ∧ True) ∧
 Z
 (List.set a (Int.toNat a_6)
 (List.getD a (Int.toNat a_7)
 (Ty.dflt t33)),
 IntKind.wrap IntKind.i64
 (a_6 + (1 : Int)),
 IntKind.wrap IntKind.i64
 (a_7 + (1 : Int)),
 ()) ∧
 μ
 (List.set a (Int.toNat a_6)
 (List.getD a (Int.toNat a_7)
 (Ty.dflt t33)),
 IntKind.wrap IntKind.i64
 (a_6 + (1 : Int)),
 IntKind.wrap IntKind.i64
 (a_7 + (1 : Int)),
 ()) <
 μ (a, a_6, a_7, ())) ∧
 ((!false) = false →
 ((IntKind.wrap IntKind.i64 (a_7 + (1 : Int)) =
 IntKind.wrap IntKind.i64
 (a_7 + (1 : Int)) ∧
 a_6 = a_6 ∧
 True ∧
 True ∧ x.fst = x.fst ∧ True ∧ True) ∧
 (x.snd.fst.fst = x.snd.fst.fst ∧
 x.snd.fst.snd.fst = x.snd.fst.snd.fst) ∧
 a = a ∧ allF x.fst = allF x.fst ∧ True) ∧
 Z
 (a, a_6,
 IntKind.wrap IntKind.i64
 (a_7 + (1 : Int)),
 ()) ∧
 μ
 (a, a_6,
 IntKind.wrap IntKind.i64
 (a_7 + (1 : Int)),
 ()) <
 μ (a, a_6, a_7, ())))) ∧
 (decide (a_7 < (↑(List.length a) : Int)) = false →
 ((0 : Int) ≤ a_6 ∧ a_6 < (↑(List.length a) : Int)) ∧
 ((0 : Int) ≤ a_6 ∧
 a_6 ≤
 (↑(List.length
 (List.take (Int.toNat a_6) a ++
 List.replicate
 (List.length a - Int.toNat a_6)
 ((0 : Int), (0 : Int), ()))) :
 Int)) ∧
 True ∧
 List.length
 (List.take (Int.toNat a_6)
 (List.take (Int.toNat a_6) a ++
 List.replicate
 (List.length a - Int.toNat a_6)
 ((0 : Int), (0 : Int), ()))) ≤
 maxLen ∧
 ((newF (lenF x.fst)
 (List.take (Int.toNat a_6)
 (List.take (Int.toNat a_6) a ++
 List.replicate
 (List.length a - Int.toNat a_6)
 ((0 : Int), (0 : Int), ())))).fst,
 IntKind.wrap IntKind.i64
 ((↑(List.length (allF x.fst)) : Int) -
 (↑(List.length
 (List.take (Int.toNat a_6)
 (List.take (Int.toNat a_6) a ++
 List.replicate
 (List.length a -
 Int.toNat a_6)
 ((0 : Int), (0 : Int),
 ())))) :
 Int)),
 (newF (lenF x.fst)
 (List.take (Int.toNat a_6)
 (List.take (Int.toNat a_6) a ++
 List.replicate
 (List.length a - Int.toNat a_6)
 ((0 : Int), (0 : Int), ())))).snd) =
 removeF x.fst x.snd.fst))) ∧
 (decide
 (x.snd.fst.fst ≤
 (List.getD (allF x.fst) (Int.toNat a) (Ty.dflt t33)).snd.fst) =
 false →
 ((IntKind.wrap IntKind.i64 (a + (1 : Int)) =
 IntKind.wrap IntKind.i64 (a + (1 : Int)) ∧
 True ∧
 True ∧
 (↑(List.length (allF x.fst)) : Int) =
 (↑(List.length (allF x.fst)) : Int) ∧
 True ∧ True ∧ True ∧ x.fst = x.fst ∧ True ∧ True) ∧
 (x.snd.fst.fst = x.snd.fst.fst ∧ x.snd.fst.snd.fst = x.snd.fst.snd.fst) ∧
 allF x.fst = allF x.fst ∧ allF x.fst = allF x.fst ∧ True) ∧
 Z (IntKind.wrap IntKind.i64 (a + (1 : Int)), ()) ∧
 μ (IntKind.wrap IntKind.i64 (a + (1 : Int)), ()) < μ (a, ()))) ∧
 (decide
 ((List.getD (allF x.fst) (Int.toNat a) (Ty.dflt t33)).fst ≤
 x.snd.fst.snd.fst) =
 false →
 ((IntKind.wrap IntKind.i64 (a + (1 : Int)) =
 IntKind.wrap IntKind.i64 (a + (1 : Int)) ∧
 True ∧
 True ∧
 (↑(List.length (allF x.fst)) : Int) =
 (↑(List.length (allF x.fst)) : Int) ∧
 True ∧ True ∧ True ∧ x.fst = x.fst ∧ True ∧ True) ∧
 (x.snd.fst.fst = x.snd.fst.fst ∧ x.snd.fst.snd.fst = x.snd.fst.snd.fst) ∧
 allF x.fst = allF x.fst ∧ allF x.fst = allF x.fst ∧ True) ∧
 Z (IntKind.wrap IntKind.i64 (a + (1 : Int)), ()) ∧
 μ (IntKind.wrap IntKind.i64 (a + (1 : Int)), ()) < μ (a, ()))) ∧
 (decide (a < (↑(List.length (allF x.fst)) : Int)) = false →
 (((-1 : Int) == (-1 : Int)) = true →
 True ∧
 List.length (allF x.fst) ≤ maxLen ∧
 ((newF (lenF x.fst) (allF x.fst)).fst,
 IntKind.wrap IntKind.i64
 ((↑(List.length (allF x.fst)) : Int) -
 (↑(List.length (allF x.fst)) : Int)),
 (newF (lenF x.fst) (allF x.fst)).snd) =
 removeF x.fst x.snd.fst) ∧
 (((-1 : Int) == (-1 : Int)) = false →
 ((IntKind.wrap IntKind.i64 ((-1 : Int) + (1 : Int)) =
 IntKind.wrap IntKind.i64 ((-1 : Int) + (1 : Int)) ∧
 (-1 : Int) = (-1 : Int) ∧ True ∧ True ∧ x.fst = x.fst ∧ True ∧ True) ∧
 (x.snd.fst.fst = x.snd.fst.fst ∧ x.snd.fst.snd.fst = x.snd.fst.snd.fst) ∧
 allF x.fst = allF x.fst ∧ allF x.fst = allF x.fst ∧ True) ∧
 ∃ (Z : List Span × Int × Int × Unit → Prop),
 ∃ (μ : List Span × Int × Int × Unit → Nat),
 Z
 (allF x.fst, (-1 : Int),
 IntKind.wrap IntKind.i64 ((-1 : Int) + (1 : Int)), ()) ∧
 ∀ (a : List Span) (a_2 a_3 : Int),
 Z (a, a_2, a_3, ()) →
 (decide (a_3 < (↑(List.length a) : Int)) = true →
 ((0 : Int) ≤ a_3 ∧ a_3 < (↑(List.length a) : Int)) ∧
 (decide
 ((List.getD a (Int.toNat a_3) (Ty.dflt t33)).fst ≤
 x.snd.fst.snd.fst) =
 true →
 ((!decide
 (x.snd.fst.fst ≤
 (List.getD a (Int.toNat a_3)
 (Ty.dflt t33)).snd.fst)) =
 true →
 ((0 : Int) ≤ a_2 ∧ a_2 < (↑(List.length a) : Int)) ∧
 ((IntKind.wrap IntKind.i64 (a_3 + (1 : Int)) =
 IntKind.wrap IntKind.i64 (a_3 + (1 : Int)) ∧
 IntKind.wrap IntKind.i64 (a_2 + (1 : Int)) =
 IntKind.wrap IntKind.i64 (a_2 + (1 : Int)) ∧
 True ∧ True ∧ x.fst = x.fst ∧ True ∧ True) ∧
 (x.snd.fst.fst = x.snd.fst.fst ∧
 x.snd.fst.snd.fst = x.snd.fst.snd.fst) ∧
 List.set a (Int.toNat a_2)
 (List.getD a (Int.toNat a_3)
 (Ty.dflt t33)) =
 List.set a (Int.toNat a_2)
 (List.getD a (Int.toNat a_3)
 (Ty.dflt t33)) ∧
 allF x.fst = allF x.fst ∧ True) ∧
 Z
 (List.set a (Int.toNat a_2)
 (List.getD a (Int.toNat a_3) (Ty.dflt t33)),
 IntKind.wrap IntKind.i64 (a_2 + (1 : Int)),
 IntKind.wrap IntKind.i64 (a_3 + (1 : Int)),
 ()) ∧
 μ
 (List.set a (Int.toNat a_2)
 (List.getD a (Int.toNat a_3) (Ty.dflt t33)),
 IntKind.wrap IntKind.i64 (a_2 + (1 : Int)),
 IntKind.wrap IntKind.i64 (a_3 + (1 : Int)),
 ()) <
 μ (a, a_2, a_3, ())) ∧
 ((!decide
 (x.snd.fst.fst ≤
 (List.getD a (Int.toNat a_3)
 (Ty.dflt t33)).snd.fst)) =
 false →
 ((IntKind.wrap IntKind.i64 (a_3 + (1 : Int)) =
 IntKind.wrap IntKind.i64 (a_3 + (1 : Int)) ∧
 a_2 = a_2 ∧
 True ∧ True ∧ x.fst = x.fst ∧ True ∧ True) ∧
 (x.snd.fst.fst = x.snd.fst.fst ∧
 x.snd.fst.snd.fst = x.snd.fst.snd.fst) ∧
 a = a ∧ allF x.fst = allF x.fst ∧ True) ∧
 Z
 (a, a_2, IntKind.wrap IntKind.i64 (a_3 + (1 : Int)),
 ()) ∧
 μ
 (a, a_2,
 IntKind.wrap IntKind.i64 (a_3 + (1 : Int)),
 ()) <
 μ (a, a_2, a_3, ()))) ∧
 (decide
 ((List.getD a (Int.toNat a_3) (Ty.dflt t33)).fst ≤
 x.snd.fst.snd.fst) =
 false →
 ((!false) = true →
 ((0 : Int) ≤ a_2 ∧ a_2 < (↑(List.length a) : Int)) ∧
 ((IntKind.wrap IntKind.i64 (a_3 + (1 : Int)) =
 IntKind.wrap IntKind.i64 (a_3 + (1 : Int)) ∧
 IntKind.wrap IntKind.i64 (a_2 + (1 : Int)) =
 IntKind.wrap IntKind.i64 (a_2 + (1 : Int)) ∧
 True ∧ True ∧ x.fst = x.fst ∧ True ∧ True) ∧
 (x.snd.fst.fst = x.snd.fst.fst ∧
 x.snd.fst.snd.fst = x.snd.fst.snd.fst) ∧
 List.set a (Int.toNat a_2)
 (List.getD a (Int.toNat a_3)
 (Ty.dflt t33)) =
 List.set a (Int.toNat a_2)
 (List.getD a (Int.toNat a_3)
 (Ty.dflt t33)) ∧
 allF x.fst = allF x.fst ∧ True) ∧
 Z
 (List.set a (Int.toNat a_2)
 (List.getD a (Int.toNat a_3) (Ty.dflt t33)),
 IntKind.wrap IntKind.i64 (a_2 + (1 : Int)),
 IntKind.wrap IntKind.i64 (a_3 + (1 : Int)),
 ()) ∧
 μ
 (List.set a (Int.toNat a_2)
 (List.getD a (Int.toNat a_3) (Ty.dflt t33)),
 IntKind.wrap IntKind.i64 (a_2 + (1 : Int)),
 IntKind.wrap IntKind.i64 (a_3 + (1 : Int)),
 ()) <
 μ (a, a_2, a_3, ())) ∧
 ((!false) = false →
 ((IntKind.wrap IntKind.i64 (a_3 + (1 : Int)) =
 IntKind.wrap IntKind.i64 (a_3 + (1 : Int)) ∧
 a_2 = a_2 ∧
 True ∧ True ∧ x.fst = x.fst ∧ True ∧ True) ∧
 (x.snd.fst.fst = x.snd.fst.fst ∧
 x.snd.fst.snd.fst = x.snd.fst.snd.fst) ∧
 a = a ∧ allF x.fst = allF x.fst ∧ True) ∧
 Z
 (a, a_2, IntKind.wrap IntKind.i64 (a_3 + (1 : Int)),
 ()) ∧
 μ
 (a, a_2,
 IntKind.wrap IntKind.i64 (a_3 + (1 : Int)),
 ()) <
 μ (a, a_2, a_3, ())))) ∧
 (decide (a_3 < (↑(List.length a) : Int)) = false →
 ((0 : Int) ≤ a_2 ∧ a_2 < (↑(List.length a) : Int)) ∧
 ((0 : Int) ≤ a_2 ∧
 a_2 ≤
 (↑(List.length
 (List.take (Int.toNat a_2) a ++
 List.replicate (List.length a - Int.toNat a_2)
 ((0 : Int), (0 : Int), ()))) :
 Int)) ∧
 True ∧
 List.length
 (List.take (Int.toNat a_2)
 (List.take (Int.toNat a_2) a ++
 List.replicate (List.length a - Int.toNat a_2)
 ((0 : Int), (0 : Int), ()))) ≤
 maxLen ∧
 ((newF (lenF x.fst)
 (List.take (Int.toNat a_2)
 (List.take (Int.toNat a_2) a ++
 List.replicate (List.length a - Int.toNat a_2)
 ((0 : Int), (0 : Int), ())))).fst,
 IntKind.wrap IntKind.i64
 ((↑(List.length (allF x.fst)) : Int) -
 (↑(List.length
 (List.take (Int.toNat a_2)
 (List.take (Int.toNat a_2) a ++
 List.replicate
 (List.length a - Int.toNat a_2)
 ((0 : Int), (0 : Int), ())))) :
 Int)),
 (newF (lenF x.fst)
 (List.take (Int.toNat a_2)
 (List.take (Int.toNat a_2) a ++
 List.replicate (List.length a - Int.toNat a_2)
 ((0 : Int), (0 : Int), ())))).snd) =
 removeF x.fst x.snd.fst))))
theorem vcEq19 : fnVC E19 Try.f19 (bodyOf Try.f19) cRemove = vc19 := by kernel_rfl
/- fn 26 -/
def hsO26 : List (Nat × Nat × Hint) := []
def nmO26 : List Nat := [1000000005, 3000000027, 3000000033, 3000000044]
noncomputable def EO26 : Env := envR tab [] [] noGl hsO26 nmO26 []
def vcO26 : Prop :=
 ∀ (x : List Span × Unit),
 List.length x.fst ≤ (10000 : Nat) →
 ∀ (c : Bool),
 (c = true → List.length x.fst = (0 : Nat)) →
 (c = true → [] = x.fst) ∧
 (c = false →
 ((0 : Nat) + List.length x.fst) * (16 : Nat) ≤ (140737488355328 : Nat) ∧
 (0 : Nat) + List.length x.fst ≤ maxLen ∧ [] ++ x.fst = x.fst)
theorem vcEqO26 : fnVCO EO26 Try.f26 (bodyOf Try.f26) cCloneO = vcO26 := by kernel_rfl
end Go.Fr.C15
