/-
  Conditions to be proved, function by function, printed by a program. Conditions: none.
-/
import Derived.Test.YtbecepgbplafmaaC11A
namespace Go.Fr.C11
open Go Go.Fr Go.Proofs
set_option maxRecDepth 100000

/- fn 9 -/
def hs9 : List (Nat × Nat × Hint) := [(0, 7, ⟨[.slot 30 t3, .cell 25 0 (mapT t3 t36)], [0, 6, 28, 29], [25, 27], [24]⟩)]
def nm9 : List Nat := [2000000026, 3000000023, 3000000025, 3000000038, 4000000009, 4000000014]
noncomputable def E9 : Env := envR tab [(22, cCloneO), (24, cOrder)] [] noGl hs9 nm9 [(23, rSort)]
def vc9 : Prop :=
 ∀ (x : Int × List Anc × Unit),
 List.length x.snd.fst ≤ maxLen →
 (decide (x.fst < (0 : Int)) = true → (none, (1 : Int), ()) = newA x.fst x.snd.fst) ∧
 (decide (x.fst < (0 : Int)) = false →
 (decide (x.fst > (1099511627776 : Int)) = true → (none, (1 : Int), ()) = newA x.fst x.snd.fst) ∧
 (decide (x.fst > (1099511627776 : Int)) = false →
 (decide ((↑(List.length x.snd.fst) : Int) > (200 : Int)) = true →
 (none, (5 : Int), ()) = newA x.fst x.snd.fst) ∧
 (decide ((↑(List.length x.snd.fst) : Int) > (200 : Int)) = false →
 List.length x.snd.fst ≤ (10000 : Nat) ∧
 (((0 : Int) = (0 : Int) ∧
 x.fst = x.fst ∧
 True ∧
 x.snd.fst = x.snd.fst ∧
 (↑(List.length x.snd.fst) : Int) = (↑(List.length x.snd.fst) : Int)) ∧
 ((([] : AMap) = [] ∧ True) ∧ x.fst = x.fst ∧ True ∧ True) ∧ x.snd.fst = x.snd.fst ∧ True) ∧
 ∃ (Z : Int × List (Int × Anc × Unit) × Unit → Prop),
 ∃ (μ : Int × List (Int × Anc × Unit) × Unit → Nat),
 Z ((0 : Int), [], ()) ∧
 ∀ (a : Int) (a_1 : List (Int × Anc × Unit)),
 Z (a, a_1, ()) →
 (decide (a < (↑(List.length x.snd.fst) : Int)) = true →
 ((0 : Int) ≤ a ∧ a < (↑(List.length x.snd.fst) : Int)) ∧
 ((((decide ((List.getD x.snd.fst (Int.toNat a) (Ty.dflt t36)).snd.fst < (0 : Int)) =
 true →
 (none, (1 : Int), ()) = newA x.fst x.snd.fst) ∧
 (decide
 ((List.getD x.snd.fst (Int.toNat a) (Ty.dflt t36)).snd.fst <
 (0 : Int)) =
 false →
 (decide
 ((List.getD x.snd.fst (Int.toNat a) (Ty.dflt t36)).snd.fst >
 x.fst) =
 true →
 (none, (1 : Int), ()) = newA x.fst x.snd.fst) ∧
 (decide
 ((List.getD x.snd.fst (Int.toNat a) (Ty.dflt t36)).snd.fst >
 x.fst) =
 false →
 (((List.getD x.snd.fst (Int.toNat a) (Ty.dflt t36)).snd.snd.fst !=
 (0 : Int)) =
 true →
 (((List.getD x.snd.fst (Int.toNat a) (Ty.dflt t36)).snd.snd.fst !=
 (1 : Int)) =
 true →
 (none, (1 : Int), ()) = newA x.fst x.snd.fst) ∧
 (((List.getD x.snd.fst (Int.toNat a)
 (Ty.dflt t36)).snd.snd.fst !=
 (1 : Int)) =
 false →
 (Option.isSome
 (mget t3 t36
 (List.getD x.snd.fst (Int.toNat a)
 (Ty.dflt t36)).fst
 a_1) =
 true →
 (none, (8 : Int), ()) = newA x.fst x.snd.fst) ∧
 (Option.isSome
 (mget t3 t36
 (List.getD x.snd.fst (Int.toNat a)
 (Ty.dflt t36)).fst
 a_1) =
 false →
 ((mget t3 t36
 (List.getD x.snd.fst (Int.toNat a)
 (Ty.dflt t36)).fst
 a_1 =
 none ∧
 ((IntKind.wrap IntKind.i64 (a + (1 : Int)) =
 IntKind.wrap IntKind.i64 (a + (1 : Int)) ∧
 x.fst = x.fst ∧
 True ∧
 x.snd.fst = x.snd.fst ∧
 (↑(List.length x.snd.fst) : Int) =
 (↑(List.length x.snd.fst) : Int)) ∧
 ((a_1 ++
 [((List.getD x.snd.fst (Int.toNat a)
 (Ty.dflt t36)).fst,
 List.getD x.snd.fst (Int.toNat a)
 (Ty.dflt t36),
 ())] =
 a_1 ++
 [((List.getD x.snd.fst (Int.toNat a)
 (Ty.dflt t36)).fst,
 List.getD x.snd.fst (Int.toNat a)
 (Ty.dflt t36),
 ())] ∧
 True) ∧
 x.fst = x.fst ∧ True ∧ True) ∧
 x.snd.fst = x.snd.fst ∧ True) ∧
 Z
 (IntKind.wrap IntKind.i64 (a + (1 : Int)),
 a_1 ++
 [((List.getD x.snd.fst (Int.toNat a)
 (Ty.dflt t36)).fst,
 List.getD x.snd.fst (Int.toNat a)
 (Ty.dflt t36),
 ())],
 ()) ∧
 μ
 (IntKind.wrap IntKind.i64 (a + (1 : Int)),
 a_1 ++
 [((List.getD x.snd.fst (Int.toNat a)
 (Ty.dflt t36)).fst,
 List.getD x.snd.fst (Int.toNat a)
 (Ty.dflt t36),
 ())],
 ()) <
 μ (a, a_1, ())) ∧
 mget t3 t36
 (List.getD x.snd.fst (Int.toNat a)
 (Ty.dflt t36)).fst
 a_1 =
 none ∧
 ((IntKind.wrap IntKind.i64 (a + (1 : Int)) =
 IntKind.wrap IntKind.i64 (a + (1 : Int)) ∧
 x.fst = x.fst ∧
 True ∧
 x.snd.fst = x.snd.fst ∧
 (↑(List.length x.snd.fst) : Int) =
 (↑(List.length x.snd.fst) : Int)) ∧
 ((a_1 ++
 [((List.getD x.snd.fst (Int.toNat a)
 (Ty.dflt t36)).fst,
 List.getD x.snd.fst (Int.toNat a)
 (Ty.dflt t36),
 ())] =
 a_1 ++
 [((List.getD x.snd.fst (Int.toNat a)
 (Ty.dflt t36)).fst,
 List.getD x.snd.fst (Int.toNat a)
 (Ty.dflt t36),
 ())] ∧
 True) ∧
 x.fst = x.fst ∧ True ∧ True) ∧
 x.snd.fst = x.snd.fst ∧ True) ∧
 Z
 (IntKind.wrap IntKind.i64 (a + (1 : Int)),
 a_1 ++
 [((List.getD x.snd.fst (Int.toNat a)
 (Ty.dflt t36)).fst,
 List.getD x.snd.fst (Int.toNat a)
 (Ty.dflt t36),
 ())],
 ()) ∧
 μ
 (IntKind.wrap IntKind.i64 (a + (1 : Int)),
 a_1 ++
 [((List.getD x.snd.fst (Int.toNat a)
 (Ty.dflt t36)).fst,
 List.getD x.snd.fst (Int.toNat a)
 (Ty.dflt t36),
 ())],
 ()) <
 μ (a, a_1, ())) ∧
 ((mget t3 t36
 (List.getD x.snd.fst (Int.toNat a)
 (Ty.dflt t36)).fst
 a_1 =
 none ∧
 ((IntKind.wrap IntKind.i64 (a + (1 : Int)) =
 IntKind.wrap IntKind.i64 (a + (1 : Int)) ∧
 x.fst = x.fst ∧
 True ∧
 x.snd.fst = x.snd.fst ∧
 (↑(List.length x.snd.fst) : Int) =
 (↑(List.length x.snd.fst) : Int)) ∧
 ((a_1 ++
 [((List.getD x.snd.fst (Int.toNat a)
 (Ty.dflt t36)).fst,
 List.getD x.snd.fst
 (Int.toNat a) (Ty.dflt t36),
 ())] =
 a_1 ++
 [((List.getD x.snd.fst (Int.toNat a)
 (Ty.dflt t36)).fst,
 List.getD x.snd.fst
 (Int.toNat a) (Ty.dflt t36),
 ())] ∧
 True) ∧
 x.fst = x.fst ∧ True ∧ True) ∧
 x.snd.fst = x.snd.fst ∧ True) ∧
 Z
 (IntKind.wrap IntKind.i64 (a + (1 : Int)),
 a_1 ++
 [((List.getD x.snd.fst (Int.toNat a)
 (Ty.dflt t36)).fst,
 List.getD x.snd.fst (Int.toNat a)
 (Ty.dflt t36),
 ())],
 ()) ∧
 μ
 (IntKind.wrap IntKind.i64 (a + (1 : Int)),
 a_1 ++
 [((List.getD x.snd.fst (Int.toNat a)
 (Ty.dflt t36)).fst,
 List.getD x.snd.fst (Int.toNat a)
 (Ty.dflt t36),
 ())],
 ()) <
 μ (a, a_1, ())) ∧
 mget t3 t36
 (List.getD x.snd.fst (Int.toNat a)
 (Ty.dflt t36)).fst
 a_1 =
 none ∧
 ((IntKind.wrap IntKind.i64 (a + (1 : Int)) =
 IntKind.wrap IntKind.i64 (a + (1 : Int)) ∧
 x.fst = x.fst ∧
 True ∧
 x.snd.fst = x.snd.fst ∧
 (↑(List.length x.snd.fst) : Int) =
 (↑(List.length x.snd.fst) : Int)) ∧
 ((a_1 ++
 [((List.getD x.snd.fst (Int.toNat a)
 (Ty.dflt t36)).fst,
 List.getD x.snd.fst
 (Int.toNat a) (Ty.dflt t36),
 ())] =
 a_1 ++
 [((List.getD x.snd.fst (Int.toNat a)
 (Ty.dflt t36)).fst,
 List.getD x.snd.fst
 (Int.toNat a) (Ty.dflt t36),
 ())] ∧
 True) ∧
 x.fst = x.fst ∧ True ∧ True) ∧
 x.snd.fst = x.snd.fst ∧ True) ∧
 Z
 (IntKind.wrap IntKind.i64 (a + (1 : Int)),
 a_1 ++
 [((List.getD x.snd.fst (Int.toNat a)
 (Ty.dflt t36)).fst,
 List.getD x.snd.fst (Int.toNat a)
 (Ty.dflt t36),
 ())],
 ()) ∧
 μ
 (IntKind.wrap IntKind.i64 (a + (1 : Int)),
 a_1 ++
 [((List.getD x.snd.fst (Int.toNat a)
 (Ty.dflt t36)).fst,
 List.getD x.snd.fst (Int.toNat a)
 (Ty.dflt t36),
 ())],
 ()) <
 μ (a, a_1, ())) ∧
 (mget t3 t36
 (List.getD x.snd.fst (Int.toNat a)
 (Ty.dflt t36)).fst
 a_1 =
 none ∧
 ((IntKind.wrap IntKind.i64 (a + (1 : Int)) =
 IntKind.wrap IntKind.i64 (a + (1 : Int)) ∧
 x.fst = x.fst ∧
 True ∧
 x.snd.fst = x.snd.fst ∧
 (↑(List.length x.snd.fst) : Int) =
 (↑(List.length x.snd.fst) : Int)) ∧
 ((a_1 ++
 [((List.getD x.snd.fst (Int.toNat a)
 (Ty.dflt t36)).fst,
 List.getD x.snd.fst
 (Int.toNat a) (Ty.dflt t36),
 ())] =
 a_1 ++
 [((List.getD x.snd.fst (Int.toNat a)
 (Ty.dflt t36)).fst,
 List.getD x.snd.fst
 (Int.toNat a) (Ty.dflt t36),
 ())] ∧
 True) ∧
 x.fst = x.fst ∧ True ∧ True) ∧
 x.snd.fst = x.snd.fst ∧ True) ∧
 Z
 (IntKind.wrap IntKind.i64 (a + (1 : Int)),
 a_1 ++
 [((List.getD x.snd.fst (Int.toNat a)
 (Ty.dflt t36)).fst,
 List.getD x.snd.fst (Int.toNat a)
 (Ty.dflt t36),
 ())],
 ()) ∧
 μ
 (IntKind.wrap IntKind.i64 (a + (1 : Int)),
 a_1 ++
 [((List.getD x.snd.fst (Int.toNat a)
 (Ty.dflt t36)).fst,
 List.getD x.snd.fst (Int.toNat a)
 (Ty.dflt t36),
 ())],
 ()) <
 μ (a, a_1, ())) ∧
 mget t3 t36
 (List.getD x.snd.fst (Int.toNat a)
 (Ty.dflt t36)).fst
 a_1 =
 none ∧
 ((IntKind.wrap IntKind.i64 (a + (1 : Int)) =
 IntKind.wrap IntKind.i64 (a + (1 : Int)) ∧
 x.fst = x.fst ∧
 True ∧
 x.snd.fst = x.snd.fst ∧
 (↑(List.length x.snd.fst) : Int) =
 (↑(List.length x.snd.fst) : Int)) ∧
 ((a_1 ++
 [((List.getD x.snd.fst (Int.toNat a)
 (Ty.dflt t36)).fst,
 List.getD x.snd.fst
 (Int.toNat a) (Ty.dflt t36),
 ())] =
 a_1 ++
 [((List.getD x.snd.fst (Int.toNat a)
 (Ty.dflt t36)).fst,
 List.getD x.snd.fst
 (Int.toNat a) (Ty.dflt t36),
 ())] ∧
 True) ∧
 x.fst = x.fst ∧ True ∧ True) ∧
 x.snd.fst = x.snd.fst ∧ True) ∧
 Z
 (IntKind.wrap IntKind.i64 (a + (1 : Int)),
 a_1 ++
 [((List.getD x.snd.fst (Int.toNat a)
 (Ty.dflt t36)).fst,
 List.getD x.snd.fst (Int.toNat a)
 (Ty.dflt t36),
 ())],
 ()) ∧
 μ
 (IntKind.wrap IntKind.i64 (a + (1 : Int)),
 a_1 ++
 [((List.getD x.snd.fst (Int.toNat a)
 (Ty.dflt t36)).fst,
 List.getD x.snd.fst (Int.toNat a)
 (Ty.dflt t36),
 ())],
 ()) <
 μ (a, a_1, ())))) ∧
 (((List.getD x.snd.fst (Int.toNat a) (Ty.dflt t36)).snd.snd.fst !=
 (0 : Int)) =
 false →
 (Option.isSome
 (mget t3 t36
 (List.getD x.snd.fst (Int.toNat a) (Ty.dflt t36)).fst
 a_1) =
 true →
 (none, (8 : Int), ()) = newA x.fst x.snd.fst) ∧
 (Option.isSome
 (mget t3 t36
 (List.getD x.snd.fst (Int.toNat a) (Ty.dflt t36)).fst
 a_1) =
 false →
 ((mget t3 t36
 (List.getD x.snd.fst (Int.toNat a)
 (Ty.dflt t36)).fst
 a_1 =
 none ∧
 ((IntKind.wrap IntKind.i64 (a + (1 : Int)) =
 IntKind.wrap IntKind.i64 (a + (1 : Int)) ∧
 x.fst = x.fst ∧
 True ∧
 x.snd.fst = x.snd.fst ∧
 (↑(List.length x.snd.fst) : Int) =
 (↑(List.length x.snd.fst) : Int)) ∧
 ((a_1 ++
 [((List.getD x.snd.fst (Int.toNat a)
 (Ty.dflt t36)).fst,
 List.getD x.snd.fst (Int.toNat a)
 (Ty.dflt t36),
 ())] =
 a_1 ++
 [((List.getD x.snd.fst (Int.toNat a)
 (Ty.dflt t36)).fst,
 List.getD x.snd.fst (Int.toNat a)
 (Ty.dflt t36),
 ())] ∧
 True) ∧
 x.fst = x.fst ∧ True ∧ True) ∧
 x.snd.fst = x.snd.fst ∧ True) ∧
 Z
 (IntKind.wrap IntKind.i64 (a + (1 : Int)),
 a_1 ++
 [((List.getD x.snd.fst (Int.toNat a)
 (Ty.dflt t36)).fst,
 List.getD x.snd.fst (Int.toNat a)
 (Ty.dflt t36),
 ())],
 ()) ∧
 μ
 (IntKind.wrap IntKind.i64 (a + (1 : Int)),
 a_1 ++
 [((List.getD x.snd.fst (Int.toNat a)
 (Ty.dflt t36)).fst,
 List.getD x.snd.fst (Int.toNat a)
 (Ty.dflt t36),
 ())],
 ()) <
 μ (a, a_1, ())) ∧
 mget t3 t36
 (List.getD x.snd.fst (Int.toNat a)
 (Ty.dflt t36)).fst
 a_1 =
 none ∧
 ((IntKind.wrap IntKind.i64 (a + (1 : Int)) =
 IntKind.wrap IntKind.i64 (a + (1 : Int)) ∧
 x.fst = x.fst ∧
 True ∧
 x.snd.fst = x.snd.fst ∧
 (↑(List.length x.snd.fst) : Int) =
 (↑(List.length x.snd.fst) : Int)) ∧
 ((a_1 ++
 [((List.getD x.snd.fst (Int.toNat a)
 (Ty.dflt t36)).fst,
 List.getD x.snd.fst (Int.toNat a)
 (Ty.dflt t36),
 ())] =
 a_1 ++
 [((List.getD x.snd.fst (Int.toNat a)
 (Ty.dflt t36)).fst,
 List.getD x.snd.fst (Int.toNat a)
 (Ty.dflt t36),
 ())] ∧
 True) ∧
 x.fst = x.fst ∧ True ∧ True) ∧
 x.snd.fst = x.snd.fst ∧ True) ∧
 Z
 (IntKind.wrap IntKind.i64 (a + (1 : Int)),
 a_1 ++
 [((List.getD x.snd.fst (Int.toNat a)
 (Ty.dflt t36)).fst,
 List.getD x.snd.fst (Int.toNat a)
 (Ty.dflt t36),
 ())],
 ()) ∧
 μ
 (IntKind.wrap IntKind.i64 (a + (1 : Int)),
 a_1 ++
 [((List.getD x.snd.fst (Int.toNat a)
 (Ty.dflt t36)).fst,
 List.getD x.snd.fst (Int.toNat a)
 (Ty.dflt t36),
 ())],
 ()) <
 μ (a, a_1, ())) ∧
 ((mget t3 t36
 (List.getD x.snd.fst (Int.toNat a)
 (Ty.dflt t36)).fst
 a_1 =
 none ∧
 ((IntKind.wrap IntKind.i64 (a + (1 : Int)) =
 IntKind.wrap IntKind.i64 (a + (1 : Int)) ∧
 x.fst = x.fst ∧
 True ∧
 x.snd.fst = x.snd.fst ∧
 (↑(List.length x.snd.fst) : Int) =
 (↑(List.length x.snd.fst) : Int)) ∧
 ((a_1 ++
 [((List.getD x.snd.fst (Int.toNat a)
 (Ty.dflt t36)).fst,
 List.getD x.snd.fst (Int.toNat a)
 (Ty.dflt t36),
 ())] =
 a_1 ++
 [((List.getD x.snd.fst (Int.toNat a)
 (Ty.dflt t36)).fst,
 List.getD x.snd.fst (Int.toNat a)
 (Ty.dflt t36),
 ())] ∧
 True) ∧
 x.fst = x.fst ∧ True ∧ True) ∧
 x.snd.fst = x.snd.fst ∧ True) ∧
 Z
 (IntKind.wrap IntKind.i64 (a + (1 : Int)),
 a_1 ++
 [((List.getD x.snd.fst (Int.toNat a)
 (Ty.dflt t36)).fst,
 List.getD x.snd.fst (Int.toNat a)
 (Ty.dflt t36),
 ())],
 ()) ∧
 μ
 (IntKind.wrap IntKind.i64 (a + (1 : Int)),
 a_1 ++
 [((List.getD x.snd.fst (Int.toNat a)
 (Ty.dflt t36)).fst,
 List.getD x.snd.fst (Int.toNat a)
 (Ty.dflt t36),
 ())],
 ()) <
 μ (a, a_1, ())) ∧
 mget t3 t36
 (List.getD x.snd.fst (Int.toNat a)
 (Ty.dflt t36)).fst
 a_1 =
 none ∧
 ((IntKind.wrap IntKind.i64 (a + (1 : Int)) =
 IntKind.wrap IntKind.i64 (a + (1 : Int)) ∧
 x.fst = x.fst ∧
 True ∧
 x.snd.fst = x.snd.fst ∧
 (↑(List.length x.snd.fst) : Int) =
 (↑(List.length x.snd.fst) : Int)) ∧
 ((a_1 ++
 [((List.getD x.snd.fst (Int.toNat a)
 (Ty.dflt t36)).fst,
 List.getD x.snd.fst (Int.toNat a)
 (Ty.dflt t36),
 ())] =
 a_1 ++
 [((List.getD x.snd.fst (Int.toNat a)
 (Ty.dflt t36)).fst,
 List.getD x.snd.fst (Int.toNat a)
 (Ty.dflt t36),
 ())] ∧
 True) ∧
 x.fst = x.fst ∧ True ∧ True) ∧
 x.snd.fst = x.snd.fst ∧ True) ∧
 Z
 (IntKind.wrap IntKind.i64 (a + (1 : Int)),
 a_1 ++
 [((List.getD x.snd.fst (Int.toNat a)
 (Ty.dflt t36)).fst,
 List.getD x.snd.fst (Int.toNat a)
 (Ty.dflt t36),
 ())],
 ()) ∧
 μ
 (IntKind.wrap IntKind.i64 (a + (1 : Int)),
 a_1 ++
 [((List.getD x.snd.fst (Int.toNat a)
 (Ty.dflt t36)).fst,
 List.getD x.snd.fst (Int.toNat a)
 (Ty.dflt t36),
 ())],
 ()) <
 μ (a, a_1, ())) ∧
 (mget t3 t36
 (List.getD x.snd.fst (Int.toNat a)
 (Ty.dflt t36)).fst
 a_1 =
 none ∧
 ((IntKind.wrap IntKind.i64 (a + (1 : Int)) =
 IntKind.wrap IntKind.i64 (a + (1 : Int)) ∧
 x.fst = x.fst ∧
 True ∧
 x.snd.fst = x.snd.fst ∧
 (↑(List.length x.snd.fst) : Int) =
 (↑(List.length x.snd.fst) : Int)) ∧
 ((a_1 ++
 [((List.getD x.snd.fst (Int.toNat a)
 (Ty.dflt t36)).fst,
 List.getD x.snd.fst (Int.toNat a)
 (Ty.dflt t36),
 ())] =
 a_1 ++
 [((List.getD x.snd.fst (Int.toNat a)
 (Ty.dflt t36)).fst,
 List.getD x.snd.fst (Int.toNat a)
 (Ty.dflt t36),
 ())] ∧
 True) ∧
 x.fst = x.fst ∧ True ∧ True) ∧
 x.snd.fst = x.snd.fst ∧ True) ∧
 Z
 (IntKind.wrap IntKind.i64 (a + (1 : Int)),
 a_1 ++
 [((List.getD x.snd.fst (Int.toNat a)
 (Ty.dflt t36)).fst,
 List.getD x.snd.fst (Int.toNat a)
 (Ty.dflt t36),
 ())],
 ()) ∧
 μ
 (IntKind.wrap IntKind.i64 (a + (1 : Int)),
 a_1 ++
 [((List.getD x.snd.fst (Int.toNat a)
 (Ty.dflt t36)).fst,
 List.getD x.snd.fst (Int.toNat a)
 (Ty.dflt t36),
 ())],
 ()) <
 μ (a, a_1, ())) ∧
 mget t3 t36
 (List.getD x.snd.fst (Int.toNat a)
 (Ty.dflt t36)).fst
 a_1 =
 none ∧
 ((IntKind.wrap IntKind.i64 (a + (1 : Int)) =
 IntKind.wrap IntKind.i64 (a + (1 : Int)) ∧
 x.fst = x.fst ∧
 True ∧
 x.snd.fst = x.snd.fst ∧
 (↑(List.length x.snd.fst) : Int) =
 (↑(List.length x.snd.fst) : Int)) ∧
 ((a_1 ++
 [((List.getD x.snd.fst (Int.toNat a)
 (Ty.dflt t36)).fst,
 List.getD x.snd.fst (Int.toNat a)
 (Ty.dflt t36),
 ())] =
 a_1 ++
 [((List.getD x.snd.fst (Int.toNat a)
 (Ty.dflt t36)).fst,
 List.getD x.snd.fst (Int.toNat a)
 (Ty.dflt t36),
 ())] ∧
 True) ∧
 x.fst = x.fst ∧ True ∧ True) ∧
 x.snd.fst = x.snd.fst ∧ True) ∧
 Z
 (IntKind.wrap IntKind.i64 (a + (1 : Int)),
 a_1 ++
 [((List.getD x.snd.fst (Int.toNat a)
 (Ty.dflt t36)).fst,
 List.getD x.snd.fst (Int.toNat a)
 (Ty.dflt t36),
 ())],
 ()) ∧
 μ
 (IntKind.wrap IntKind.i64 (a + (1 : Int)),
 a_1 ++
 [((List.getD x.snd.fst (Int.toNat a)
 (Ty.dflt t36)).fst,
 List.getD x.snd.fst (Int.toNat a)
 (Ty.dflt t36),
 ())],
 ()) <
 μ (a, a_1, ())))))) ∧
 (decide
 ((List.getD x.snd.fst (Int.toNat a) (Ty.dflt t36)).snd.fst <
 (0 : Int)) =
 true →
 (none, (1 : Int), ()) = newA x.fst x.snd.fst) ∧
 (decide
 ((List.getD x.snd.fst (Int.toNat a) (Ty.dflt t36)).snd.fst <
 (0 : Int)) =
 false →
 (decide
 ((List.getD x.snd.fst (Int.toNat a) (Ty.dflt t36)).snd.fst >
 x.fst) =
 true →
 (none, (1 : Int), ()) = newA x.fst x.snd.fst) ∧
 (decide
 ((List.getD x.snd.fst (Int.toNat a) (Ty.dflt t36)).snd.fst >
 x.fst) =
 false →
 (((List.getD x.snd.fst (Int.toNat a) (Ty.dflt t36)).snd.snd.fst !=
 (0 : Int)) =
 true →
 (((List.getD x.snd.fst (Int.toNat a) (Ty.dflt t36)).snd.snd.fst !=
 (1 : Int)) =
 true →
 (none, (1 : Int), ()) = newA x.fst x.snd.fst) ∧
 (((List.getD x.snd.fst (Int.toNat a)
 (Ty.dflt t36)).snd.snd.fst !=
 (1 : Int)) =
 false →
 (Option.isSome
 (mget t3 t36
 (List.getD x.snd.fst (Int.toNat a)
 (Ty.dflt t36)).fst
 a_1) =
 true →
 (none, (8 : Int), ()) = newA x.fst x.snd.fst) ∧
 (Option.isSome
 (mget t3 t36
 (List.getD x.snd.fst (Int.toNat a)
 (Ty.dflt t36)).fst
 a_1) =
 false →
 ((mget t3 t36
 (List.getD x.snd.fst (Int.toNat a)
 (Ty.dflt t36)).fst
 a_1 =
 none ∧
 ((IntKind.wrap IntKind.i64 (a + (1 : Int)) =
 IntKind.wrap IntKind.i64 (a + (1 : Int)) ∧
 x.fst = x.fst ∧
 True ∧
 x.snd.fst = x.snd.fst ∧
 (↑(List.length x.snd.fst) : Int) =
 (↑(List.length x.snd.fst) : Int)) ∧
 ((a_1 ++
 [((List.getD x.snd.fst (Int.toNat a)
 (Ty.dflt t36)).fst,
 List.getD x.snd.fst (Int.toNat a)
 (Ty.dflt t36),
 ())] =
 a_1 ++
 [((List.getD x.snd.fst (Int.toNat a)
 (Ty.dflt t36)).fst,
 List.getD x.snd.fst (Int.toNat a)
 (Ty.dflt t36),
 ())] ∧
 True) ∧
 x.fst = x.fst ∧ True ∧ True) ∧
 x.snd.fst = x.snd.fst ∧ True) ∧
 Z
 (IntKind.wrap IntKind.i64 (a + (1 : Int)),
 a_1 ++
 [((List.getD x.snd.fst (Int.toNat a)
 (Ty.dflt t36)).fst,
 List.getD x.snd.fst (Int.toNat a)
 (Ty.dflt t36),
 ())],
 ()) ∧
 μ
 (IntKind.wrap IntKind.i64 (a + (1 : Int)),
 a_1 ++
 [((List.getD x.snd.fst (Int.toNat a)
 (Ty.dflt t36)).fst,
 List.getD x.snd.fst (Int.toNat a)
 (Ty.dflt t36),
 ())],
 ()) <
 μ (a, a_1, ())) ∧
 mget t3 t36
 (List.getD x.snd.fst (Int.toNat a)
 (Ty.dflt t36)).fst
 a_1 =
 none ∧
 ((IntKind.wrap IntKind.i64 (a + (1 : Int)) =
 IntKind.wrap IntKind.i64 (a + (1 : Int)) ∧
 x.fst = x.fst ∧
 True ∧
 x.snd.fst = x.snd.fst ∧
 (↑(List.length x.snd.fst) : Int) =
 (↑(List.length x.snd.fst) : Int)) ∧
 ((a_1 ++
 [((List.getD x.snd.fst (Int.toNat a)
 (Ty.dflt t36)).fst,
 List.getD x.snd.fst (Int.toNat a)
 (Ty.dflt t36),
 ())] =
 a_1 ++
 [((List.getD x.snd.fst (Int.toNat a)
 (Ty.dflt t36)).fst,
 List.getD x.snd.fst (Int.toNat a)
 (Ty.dflt t36),
 ())] ∧
 True) ∧
 x.fst = x.fst ∧ True ∧ True) ∧
 x.snd.fst = x.snd.fst ∧ True) ∧
 Z
 (IntKind.wrap IntKind.i64 (a + (1 : Int)),
 a_1 ++
 [((List.getD x.snd.fst (Int.toNat a)
 (Ty.dflt t36)).fst,
 List.getD x.snd.fst (Int.toNat a)
 (Ty.dflt t36),
 ())],
 ()) ∧
 μ
 (IntKind.wrap IntKind.i64 (a + (1 : Int)),
 a_1 ++
 [((List.getD x.snd.fst (Int.toNat a)
 (Ty.dflt t36)).fst,
 List.getD x.snd.fst (Int.toNat a)
 (Ty.dflt t36),
 ())],
 ()) <
 μ (a, a_1, ())) ∧
 ((mget t3 t36
 (List.getD x.snd.fst (Int.toNat a)
 (Ty.dflt t36)).fst
 a_1 =
 none ∧
 ((IntKind.wrap IntKind.i64 (a + (1 : Int)) =
 IntKind.wrap IntKind.i64 (a + (1 : Int)) ∧
 x.fst = x.fst ∧
 True ∧
 x.snd.fst = x.snd.fst ∧
 (↑(List.length x.snd.fst) : Int) =
 (↑(List.length x.snd.fst) : Int)) ∧
 ((a_1 ++
 [((List.getD x.snd.fst (Int.toNat a)
 (Ty.dflt t36)).fst,
 List.getD x.snd.fst
 (Int.toNat a) (Ty.dflt t36),
 ())] =
 a_1 ++
 [((List.getD x.snd.fst (Int.toNat a)
 (Ty.dflt t36)).fst,
 List.getD x.snd.fst
 (Int.toNat a) (Ty.dflt t36),
 ())] ∧
 True) ∧
 x.fst = x.fst ∧ True ∧ True) ∧
 x.snd.fst = x.snd.fst ∧ True) ∧
 Z
 (IntKind.wrap IntKind.i64 (a + (1 : Int)),
 a_1 ++
 [((List.getD x.snd.fst (Int.toNat a)
 (Ty.dflt t36)).fst,
 List.getD x.snd.fst (Int.toNat a)
 (Ty.dflt t36),
 ())],
 ()) ∧
 μ
 (IntKind.wrap IntKind.i64 (a + (1 : Int)),
 a_1 ++
 [((List.getD x.snd.fst (Int.toNat a)
 (Ty.dflt t36)).fst,
 List.getD x.snd.fst (Int.toNat a)
 (Ty.dflt t36),
 ())],
 ()) <
 μ (a, a_1, ())) ∧
 mget t3 t36
 (List.getD x.snd.fst (Int.toNat a)
 (Ty.dflt t36)).fst
 a_1 =
 none ∧
 ((IntKind.wrap IntKind.i64 (a + (1 : Int)) =
 IntKind.wrap IntKind.i64 (a + (1 : Int)) ∧
 x.fst = x.fst ∧
 True ∧
 x.snd.fst = x.snd.fst ∧
 (↑(List.length x.snd.fst) : Int) =
 (↑(List.length x.snd.fst) : Int)) ∧
 ((a_1 ++
 [((List.getD x.snd.fst (Int.toNat a)
 (Ty.dflt t36)).fst,
 List.getD x.snd.fst
 (Int.toNat a) (Ty.dflt t36),
 ())] =
 a_1 ++
 [((List.getD x.snd.fst (Int.toNat a)
 (Ty.dflt t36)).fst,
 List.getD x.snd.fst
 (Int.toNat a) (Ty.dflt t36),
 ())] ∧
 True) ∧
 x.fst = x.fst ∧ True ∧ True) ∧
 x.snd.fst = x.snd.fst ∧ True) ∧
 Z
 (IntKind.wrap IntKind.i64 (a + (1 : Int)),
 a_1 ++
 [((List.getD x.snd.fst (Int.toNat a)
 (Ty.dflt t36)).fst,
 List.getD x.snd.fst (Int.toNat a)
 (Ty.dflt t36),
 ())],
 ()) ∧
 μ
 (IntKind.wrap IntKind.i64 (a + (1 : Int)),
 a_1 ++
 [((List.getD x.snd.fst (Int.toNat a)
 (Ty.dflt t36)).fst,
 List.getD x.snd.fst (Int.toNat a)
 (Ty.dflt t36),
 ())],
 ()) <
 μ (a, a_1, ())) ∧
 (mget t3 t36
 (List.getD x.snd.fst (Int.toNat a)
 (Ty.dflt t36)).fst
 a_1 =
 none ∧
 ((IntKind.wrap IntKind.i64 (a + (1 : Int)) =
 IntKind.wrap IntKind.i64 (a + (1 : Int)) ∧
 x.fst = x.fst ∧
 True ∧
 x.snd.fst = x.snd.fst ∧
 (↑(List.length x.snd.fst) : Int) =
 (↑(List.length x.snd.fst) : Int)) ∧
 ((a_1 ++
 [((List.getD x.snd.fst (Int.toNat a)
 (Ty.dflt t36)).fst,
 List.getD x.snd.fst
 (Int.toNat a) (Ty.dflt t36),
 ())] =
 a_1 ++
 [((List.getD x.snd.fst (Int.toNat a)
 (Ty.dflt t36)).fst,
 List.getD x.snd.fst
 (Int.toNat a) (Ty.dflt t36),
 ())] ∧
 True) ∧
 x.fst = x.fst ∧ True ∧ True) ∧
 x.snd.fst = x.snd.fst ∧ True) ∧
 Z
 (IntKind.wrap IntKind.i64 (a + (1 : Int)),
 a_1 ++
 [((List.getD x.snd.fst (Int.toNat a)
 (Ty.dflt t36)).fst,
 List.getD x.snd.fst (Int.toNat a)
 (Ty.dflt t36),
 ())],
 ()) ∧
 μ
 (IntKind.wrap IntKind.i64 (a + (1 : Int)),
 a_1 ++
 [((List.getD x.snd.fst (Int.toNat a)
 (Ty.dflt t36)).fst,
 List.getD x.snd.fst (Int.toNat a)
 (Ty.dflt t36),
 ())],
 ()) <
 μ (a, a_1, ())) ∧
 mget t3 t36
 (List.getD x.snd.fst (Int.toNat a)
 (Ty.dflt t36)).fst
 a_1 =
 none ∧
 ((IntKind.wrap IntKind.i64 (a + (1 : Int)) =
 IntKind.wrap IntKind.i64 (a + (1 : Int)) ∧
 x.fst = x.fst ∧
 True ∧
 x.snd.fst = x.snd.fst ∧
 (↑(List.length x.snd.fst) : Int) =
 (↑(List.length x.snd.fst) : Int)) ∧
 ((a_1 ++
 [((List.getD x.snd.fst (Int.toNat a)
 (Ty.dflt t36)).fst,
 List.getD x.snd.fst
 (Int.toNat a) (Ty.dflt t36),
 ())] =
 a_1 ++
 [((List.getD x.snd.fst (Int.toNat a)
 (Ty.dflt t36)).fst,
 List.getD x.snd.fst
 (Int.toNat a) (Ty.dflt t36),
 ())] ∧
 True) ∧
 x.fst = x.fst ∧ True ∧ True) ∧
 x.snd.fst = x.snd.fst ∧ True) ∧
 Z
 (IntKind.wrap IntKind.i64 (a + (1 : Int)),
 a_1 ++
 [((List.getD x.snd.fst (Int.toNat a)
 (Ty.dflt t36)).fst,
 List.getD x.snd.fst (Int.toNat a)
 (Ty.dflt t36),
 ())],
 ()) ∧
 μ
 (IntKind.wrap IntKind.i64 (a + (1 : Int)),
 a_1 ++
 [((List.getD x.snd.fst (Int.toNat a)
 (Ty.dflt t36)).fst,
 List.getD x.snd.fst (Int.toNat a)
 (Ty.dflt t36),
 ())],
 ()) <
 μ (a, a_1, ())))) ∧
 (((List.getD x.snd.fst (Int.toNat a) (Ty.dflt t36)).snd.snd.fst !=
 (0 : Int)) =
 false →
 (Option.isSome
 (mget t3 t36
 (List.getD x.snd.fst (Int.toNat a) (Ty.dflt t36)).fst
 a_1) =
 true →
 (none, (8 : Int), ()) = newA x.fst x.snd.fst) ∧
 (Option.isSome
 (mget t3 t36
 (List.getD x.snd.fst (Int.toNat a) (Ty.dflt t36)).fst
 a_1) =
 false →
 ((mget t3 t36
 (List.getD x.snd.fst (Int.toNat a)
 (Ty.dflt t36)).fst
 a_1 =
 none ∧
 ((IntKind.wrap IntKind.i64 (a + (1 : Int)) =
 IntKind.wrap IntKind.i64 (a + (1 : Int)) ∧
 x.fst = x.fst ∧
 True ∧
 x.snd.fst = x.snd.fst ∧
 (↑(List.length x.snd.fst) : Int) =
 (↑(List.length x.snd.fst) : Int)) ∧
 ((a_1 ++
 [((List.getD x.snd.fst (Int.toNat a)
 (Ty.dflt t36)).fst,
 List.getD x.snd.fst (Int.toNat a)
 (Ty.dflt t36),
 ())] =
 a_1 ++
 [((List.getD x.snd.fst (Int.toNat a)
 (Ty.dflt t36)).fst,
 List.getD x.snd.fst (Int.toNat a)
 (Ty.dflt t36),
 ())] ∧
 True) ∧
 x.fst = x.fst ∧ True ∧ True) ∧
 x.snd.fst = x.snd.fst ∧ True) ∧
 Z
 (IntKind.wrap IntKind.i64 (a + (1 : Int)),
 a_1 ++
 [((List.getD x.snd.fst (Int.toNat a)
 (Ty.dflt t36)).fst,
 List.getD x.snd.fst (Int.toNat a)
 (Ty.dflt t36),
 ())],
 ()) ∧
 μ
 (IntKind.wrap IntKind.i64 (a + (1 : Int)),
 a_1 ++
 [((List.getD x.snd.fst (Int.toNat a)
 (Ty.dflt t36)).fst,
 List.getD x.snd.fst (Int.toNat a)
 (Ty.dflt t36),
 ())],
 ()) <
 μ (a, a_1, ())) ∧
 mget t3 t36
 (List.getD x.snd.fst (Int.toNat a)
 (Ty.dflt t36)).fst
 a_1 =
 none ∧
 ((IntKind.wrap IntKind.i64 (a + (1 : Int)) =
 IntKind.wrap IntKind.i64 (a + (1 : Int)) ∧
 x.fst = x.fst ∧
 True ∧
 x.snd.fst = x.snd.fst ∧
 (↑(List.length x.snd.fst) : Int) =
 (↑(List.length x.snd.fst) : Int)) ∧
 ((a_1 ++
 [((List.getD x.snd.fst (Int.toNat a)
 (Ty.dflt t36)).fst,
 List.getD x.snd.fst (Int.toNat a)
 (Ty.dflt t36),
 ())] =
 a_1 ++
 [((List.getD x.snd.fst (Int.toNat a)
 (Ty.dflt t36)).fst,
 List.getD x.snd.fst (Int.toNat a)
 (Ty.dflt t36),
 ())] ∧
 True) ∧
 x.fst = x.fst ∧ True ∧ True) ∧
 x.snd.fst = x.snd.fst ∧ True) ∧
 Z
 (IntKind.wrap IntKind.i64 (a + (1 : Int)),
 a_1 ++
 [((List.getD x.snd.fst (Int.toNat a)
 (Ty.dflt t36)).fst,
 List.getD x.snd.fst (Int.toNat a)
 (Ty.dflt t36),
 ())],
 ()) ∧
 μ
 (IntKind.wrap IntKind.i64 (a + (1 : Int)),
 a_1 ++
 [((List.getD x.snd.fst (Int.toNat a)
 (Ty.dflt t36)).fst,
 List.getD x.snd.fst (Int.toNat a)
 (Ty.dflt t36),
 ())],
 ()) <
 μ (a, a_1, ())) ∧
 ((mget t3 t36
 (List.getD x.snd.fst (Int.toNat a)
 (Ty.dflt t36)).fst
 a_1 =
 none ∧
 ((IntKind.wrap IntKind.i64 (a + (1 : Int)) =
 IntKind.wrap IntKind.i64 (a + (1 : Int)) ∧
 x.fst = x.fst ∧
 True ∧
 x.snd.fst = x.snd.fst ∧
 (↑(List.length x.snd.fst) : Int) =
 (↑(List.length x.snd.fst) : Int)) ∧
 ((a_1 ++
 [((List.getD x.snd.fst (Int.toNat a)
 (Ty.dflt t36)).fst,
 List.getD x.snd.fst (Int.toNat a)
 (Ty.dflt t36),
 ())] =
 a_1 ++
 [((List.getD x.snd.fst (Int.toNat a)
 (Ty.dflt t36)).fst,
 List.getD x.snd.fst (Int.toNat a)
 (Ty.dflt t36),
 ())] ∧
 True) ∧
 x.fst = x.fst ∧ True ∧ True) ∧
 x.snd.fst = x.snd.fst ∧ True) ∧
 Z
 (IntKind.wrap IntKind.i64 (a + (1 : Int)),
 a_1 ++
 [((List.getD x.snd.fst (Int.toNat a)
 (Ty.dflt t36)).fst,
 List.getD x.snd.fst (Int.toNat a)
 (Ty.dflt t36),
 ())],
 ()) ∧
 μ
 (IntKind.wrap IntKind.i64 (a + (1 : Int)),
 a_1 ++
 [((List.getD x.snd.fst (Int.toNat a)
 (Ty.dflt t36)).fst,
 List.getD x.snd.fst (Int.toNat a)
 (Ty.dflt t36),
 ())],
 ()) <
 μ (a, a_1, ())) ∧
 mget t3 t36
 (List.getD x.snd.fst (Int.toNat a)
 (Ty.dflt t36)).fst
 a_1 =
 none ∧
 ((IntKind.wrap IntKind.i64 (a + (1 : Int)) =
 IntKind.wrap IntKind.i64 (a + (1 : Int)) ∧
 x.fst = x.fst ∧
 True ∧
 x.snd.fst = x.snd.fst ∧
 (↑(List.length x.snd.fst) : Int) =
 (↑(List.length x.snd.fst) : Int)) ∧
 ((a_1 ++
 [((List.getD x.snd.fst (Int.toNat a)
 (Ty.dflt t36)).fst,
 List.getD x.snd.fst (Int.toNat a)
 (Ty.dflt t36),
 ())] =
 a_1 ++
 [((List.getD x.snd.fst (Int.toNat a)
 (Ty.dflt t36)).fst,
 List.getD x.snd.fst (Int.toNat a)
 (Ty.dflt t36),
 ())] ∧
 True) ∧
 x.fst = x.fst ∧ True ∧ True) ∧
 x.snd.fst = x.snd.fst ∧ True) ∧
 Z
 (IntKind.wrap IntKind.i64 (a + (1 : Int)),
 a_1 ++
 [((List.getD x.snd.fst (Int.toNat a)
 (Ty.dflt t36)).fst,
 List.getD x.snd.fst (Int.toNat a)
 (Ty.dflt t36),
 ())],
 ()) ∧
 μ
 (IntKind.wrap IntKind.i64 (a + (1 : Int)),
 a_1 ++
 [((List.getD x.snd.fst (Int.toNat a)
 (Ty.dflt t36)).fst,
 List.getD x.snd.fst (Int.toNat a)
 (Ty.dflt t36),
 ())],
 ()) <
 μ (a, a_1, ())) ∧
 (mget t3 t36
 (List.getD x.snd.fst (Int.toNat a)
 (Ty.dflt t36)).fst
 a_1 =
 none ∧
 ((IntKind.wrap IntKind.i64 (a + (1 : Int)) =
 IntKind.wrap IntKind.i64 (a + (1 : Int)) ∧
 x.fst = x.fst ∧
 True ∧
 x.snd.fst = x.snd.fst ∧
 (↑(List.length x.snd.fst) : Int) =
 (↑(List.length x.snd.fst) : Int)) ∧
 ((a_1 ++
 [((List.getD x.snd.fst (Int.toNat a)
 (Ty.dflt t36)).fst,
 List.getD x.snd.fst (Int.toNat a)
 (Ty.dflt t36),
 ())] =
 a_1 ++
 [((List.getD x.snd.fst (Int.toNat a)
 (Ty.dflt t36)).fst,
 List.getD x.snd.fst (Int.toNat a)
 (Ty.dflt t36),
 ())] ∧
 True) ∧
 x.fst = x.fst ∧ True ∧ True) ∧
 x.snd.fst = x.snd.fst ∧ True) ∧
 Z
 (IntKind.wrap IntKind.i64 (a + (1 : Int)),
 a_1 ++
 [((List.getD x.snd.fst (Int.toNat a)
 (Ty.dflt t36)).fst,
 List.getD x.snd.fst (Int.toNat a)
 (Ty.dflt t36),
 ())],
 ()) ∧
 μ
 (IntKind.wrap IntKind.i64 (a + (1 : Int)),
 a_1 ++
 [((List.getD x.snd.fst (Int.toNat a)
 (Ty.dflt t36)).fst,
 List.getD x.snd.fst (Int.toNat a)
 (Ty.dflt t36),
 ())],
 ()) <
 μ (a, a_1, ())) ∧
 mget t3 t36
 (List.getD x.snd.fst (Int.toNat a)
 (Ty.dflt t36)).fst
 a_1 =
 none ∧
 ((IntKind.wrap IntKind.i64 (a + (1 : Int)) =
 IntKind.wrap IntKind.i64 (a + (1 : Int)) ∧
 x.fst = x.fst ∧
 True ∧
 x.snd.fst = x.snd.fst ∧
 (↑(List.length x.snd.fst) : Int) =
 (↑(List.length x.snd.fst) : Int)) ∧
 ((a_1 ++
 [((List.getD x.snd.fst (Int.toNat a)
 (Ty.dflt t36)).fst,
 List.getD x.snd.fst (Int.toNat a)
 (Ty.dflt t36),
 ())] =
 a_1 ++
 [((List.getD x.snd.fst (Int.toNat a)
 (Ty.dflt t36)).fst,
 List.getD x.snd.fst (Int.toNat a)
 (Ty.dflt t36),
 ())] ∧
 True) ∧
 x.fst = x.fst ∧ True ∧ True) ∧
 x.snd.fst = x.snd.fst ∧ True) ∧
 Z
 (IntKind.wrap IntKind.i64 (a + (1 : Int)),
 a_1 ++
 [((List.getD x.snd.fst (Int.toNat a)
 (Ty.dflt t36)).fst,
 List.getD x.snd.fst (Int.toNat a)
 (Ty.dflt t36),
 ())],
 ()) ∧
 μ
 (IntKind.wrap IntKind.i64 (a + (1 : Int)),
 a_1 ++
 [((List.getD x.snd.fst (Int.toNat a)
 (Ty.dflt t36)).fst,
 List.getD x.snd.fst (Int.toNat a)
 (Ty.dflt t36),
 ())],
 ()) <
 μ (a, a_1, ())))))) ∧
 (decide
 ((List.getD x.snd.fst (Int.toNat a) (Ty.dflt t36)).snd.fst <
 (0 : Int)) =
 true →
 (none, (1 : Int), ()) = newA x.fst x.snd.fst) ∧
 (decide
 ((List.getD x.snd.fst (Int.toNat a) (Ty.dflt t36)).snd.fst <
 (0 : Int)) =
 false →
 (decide
 ((List.getD x.snd.fst (Int.toNat a) (Ty.dflt t36)).snd.fst >
 x.fst) =
 true →
 (none, (1 : Int), ()) = newA x.fst x.snd.fst) ∧
 (decide
 ((List.getD x.snd.fst (Int.toNat a) (Ty.dflt t36)).snd.fst >
 x.fst) =
 false →
 (((List.getD x.snd.fst (Int.toNat a) (Ty.dflt t36)).snd.snd.fst !=
 (0 : Int)) =
 true →
 (((List.getD x.snd.fst (Int.toNat a) (Ty.dflt t36)).snd.snd.fst !=
 (1 : Int)) =
 true →
 (none, (1 : Int), ()) = newA x.fst x.snd.fst) ∧
 (((List.getD x.snd.fst (Int.toNat a) (Ty.dflt t36)).snd.snd.fst !=
 (1 : Int)) =
 false →
 (Option.isSome
 (mget t3 t36
 (List.getD x.snd.fst (Int.toNat a) (Ty.dflt t36)).fst
 a_1) =
 true →
 (none, (8 : Int), ()) = newA x.fst x.snd.fst) ∧
 (Option.isSome
 (mget t3 t36
 (List.getD x.snd.fst (Int.toNat a) (Ty.dflt t36)).fst
 a_1) =
 false →
 ((mget t3 t36
 (List.getD x.snd.fst (Int.toNat a)
 (Ty.dflt t36)).fst
 a_1 =
 none ∧
 ((IntKind.wrap IntKind.i64 (a + (1 : Int)) =
 IntKind.wrap IntKind.i64 (a + (1 : Int)) ∧
 x.fst = x.fst ∧
 True ∧
 x.snd.fst = x.snd.fst ∧
 (↑(List.length x.snd.fst) : Int) =
 (↑(List.length x.snd.fst) : Int)) ∧
 ((a_1 ++
 [((List.getD x.snd.fst (Int.toNat a)
 (Ty.dflt t36)).fst,
 List.getD x.snd.fst (Int.toNat a)
 (Ty.dflt t36),
 ())] =
 a_1 ++
 [((List.getD x.snd.fst (Int.toNat a)
 (Ty.dflt t36)).fst,
 List.getD x.snd.fst (Int.toNat a)
 (Ty.dflt t36),
 ())] ∧
 True) ∧
 x.fst = x.fst ∧ True ∧ True) ∧
 x.snd.fst = x.snd.fst ∧ True) ∧
 Z
 (IntKind.wrap IntKind.i64 (a + (1 : Int)),
 a_1 ++
 [((List.getD x.snd.fst (Int.toNat a)
 (Ty.dflt t36)).fst,
 List.getD x.snd.fst (Int.toNat a)
 (Ty.dflt t36),
 ())],
 ()) ∧
 μ
 (IntKind.wrap IntKind.i64 (a + (1 : Int)),
 a_1 ++
 [((List.getD x.snd.fst (Int.toNat a)
 (Ty.dflt t36)).fst,
 List.getD x.snd.fst (Int.toNat a)
 (Ty.dflt t36),
 ())],
 ()) <
 μ (a, a_1, ())) ∧
 mget t3 t36
 (List.getD x.snd.fst (Int.toNat a)
 (Ty.dflt t36)).fst
 a_1 =
 none ∧
 ((IntKind.wrap IntKind.i64 (a + (1 : Int)) =
 IntKind.wrap IntKind.i64 (a + (1 : Int)) ∧
 x.fst = x.fst ∧
 True ∧
 x.snd.fst = x.snd.fst ∧
 (↑(List.length x.snd.fst) : Int) =
 (↑(List.length x.snd.fst) : Int)) ∧
 ((a_1 ++
 [((List.getD x.snd.fst (Int.toNat a)
 (Ty.dflt t36)).fst,
 List.getD x.snd.fst (Int.toNat a)
 (Ty.dflt t36),
 ())] =
 a_1 ++
 [((List.getD x.snd.fst (Int.toNat a)
 (Ty.dflt t36)).fst,
 List.getD x.snd.fst (Int.toNat a)
 (Ty.dflt t36),
 ())] ∧
 True) ∧
 x.fst = x.fst ∧ True ∧ True) ∧
 x.snd.fst = x.snd.fst ∧ True) ∧
 Z
 (IntKind.wrap IntKind.i64 (a + (1 : Int)),
 a_1 ++
 [((List.getD x.snd.fst (Int.toNat a)
 (Ty.dflt t36)).fst,
 List.getD x.snd.fst (Int.toNat a)
 (Ty.dflt t36),
 ())],
 ()) ∧
 μ
 (IntKind.wrap IntKind.i64 (a + (1 : Int)),
 a_1 ++
 [((List.getD x.snd.fst (Int.toNat a)
 (Ty.dflt t36)).fst,
 List.getD x.snd.fst (Int.toNat a)
 (Ty.dflt t36),
 ())],
 ()) <
 μ (a, a_1, ())) ∧
 ((mget t3 t36
 (List.getD x.snd.fst (Int.toNat a)
 (Ty.dflt t36)).fst
 a_1 =
 none ∧
 ((IntKind.wrap IntKind.i64 (a + (1 : Int)) =
 IntKind.wrap IntKind.i64 (a + (1 : Int)) ∧
 x.fst = x.fst ∧
 True ∧
 x.snd.fst = x.snd.fst ∧
 (↑(List.length x.snd.fst) : Int) =
 (↑(List.length x.snd.fst) : Int)) ∧
 ((a_1 ++
 [((List.getD x.snd.fst (Int.toNat a)
 (Ty.dflt t36)).fst,
 List.getD x.snd.fst (Int.toNat a)
 (Ty.dflt t36),
 ())] =
 a_1 ++
 [((List.getD x.snd.fst (Int.toNat a)
 (Ty.dflt t36)).fst,
 List.getD x.snd.fst (Int.toNat a)
 (Ty.dflt t36),
 ())] ∧
 True) ∧
 x.fst = x.fst ∧ True ∧ True) ∧
 x.snd.fst = x.snd.fst ∧ True) ∧
 Z
 (IntKind.wrap IntKind.i64 (a + (1 : Int)),
 a_1 ++
 [((List.getD x.snd.fst (Int.toNat a)
 (Ty.dflt t36)).fst,
 List.getD x.snd.fst (Int.toNat a)
 (Ty.dflt t36),
 ())],
 ()) ∧
 μ
 (IntKind.wrap IntKind.i64 (a + (1 : Int)),
 a_1 ++
 [((List.getD x.snd.fst (Int.toNat a)
 (Ty.dflt t36)).fst,
 List.getD x.snd.fst (Int.toNat a)
 (Ty.dflt t36),
 ())],
 ()) <
 μ (a, a_1, ())) ∧
 mget t3 t36
 (List.getD x.snd.fst (Int.toNat a)
 (Ty.dflt t36)).fst
 a_1 =
 none ∧
 ((IntKind.wrap IntKind.i64 (a + (1 : Int)) =
 IntKind.wrap IntKind.i64 (a + (1 : Int)) ∧
 x.fst = x.fst ∧
 True ∧
 x.snd.fst = x.snd.fst ∧
 (↑(List.length x.snd.fst) : Int) =
 (↑(List.length x.snd.fst) : Int)) ∧
 ((a_1 ++
 [((List.getD x.snd.fst (Int.toNat a)
 (Ty.dflt t36)).fst,
 List.getD x.snd.fst (Int.toNat a)
 (Ty.dflt t36),
 ())] =
 a_1 ++
 [((List.getD x.snd.fst (Int.toNat a)
 (Ty.dflt t36)).fst,
 List.getD x.snd.fst (Int.toNat a)
 (Ty.dflt t36),
 ())] ∧
 True) ∧
 x.fst = x.fst ∧ True ∧ True) ∧
 x.snd.fst = x.snd.fst ∧ True) ∧
 Z
 (IntKind.wrap IntKind.i64 (a + (1 : Int)),
 a_1 ++
 [((List.getD x.snd.fst (Int.toNat a)
 (Ty.dflt t36)).fst,
 List.getD x.snd.fst (Int.toNat a)
 (Ty.dflt t36),
 ())],
 ()) ∧
 μ
 (IntKind.wrap IntKind.i64 (a + (1 : Int)),
 a_1 ++
 [((List.getD x.snd.fst (Int.toNat a)
 (Ty.dflt t36)).fst,
 List.getD x.snd.fst (Int.toNat a)
 (Ty.dflt t36),
 ())],
 ()) <
 μ (a, a_1, ())) ∧
 (mget t3 t36
 (List.getD x.snd.fst (Int.toNat a)
 (Ty.dflt t36)).fst
 a_1 =
 none ∧
 ((IntKind.wrap IntKind.i64 (a + (1 : Int)) =
 IntKind.wrap IntKind.i64 (a + (1 : Int)) ∧
 x.fst = x.fst ∧
 True ∧
 x.snd.fst = x.snd.fst ∧
 (↑(List.length x.snd.fst) : Int) =
 (↑(List.length x.snd.fst) : Int)) ∧
 ((a_1 ++
 [((List.getD x.snd.fst (Int.toNat a)
 (Ty.dflt t36)).fst,
 List.getD x.snd.fst (Int.toNat a)
 (Ty.dflt t36),
 ())] =
 a_1 ++
 [((List.getD x.snd.fst (Int.toNat a)
 (Ty.dflt t36)).fst,
 List.getD x.snd.fst (Int.toNat a)
 (Ty.dflt t36),
 ())] ∧
 True) ∧
 x.fst = x.fst ∧ True ∧ True) ∧
 x.snd.fst = x.snd.fst ∧ True) ∧
 Z
 (IntKind.wrap IntKind.i64 (a + (1 : Int)),
 a_1 ++
 [((List.getD x.snd.fst (Int.toNat a)
 (Ty.dflt t36)).fst,
 List.getD x.snd.fst (Int.toNat a)
 (Ty.dflt t36),
 ())],
 ()) ∧
 μ
 (IntKind.wrap IntKind.i64 (a + (1 : Int)),
 a_1 ++
 [((List.getD x.snd.fst (Int.toNat a)
 (Ty.dflt t36)).fst,
 List.getD x.snd.fst (Int.toNat a)
 (Ty.dflt t36),
 ())],
 ()) <
 μ (a, a_1, ())) ∧
 mget t3 t36
 (List.getD x.snd.fst (Int.toNat a)
 (Ty.dflt t36)).fst
 a_1 =
 none ∧
 ((IntKind.wrap IntKind.i64 (a + (1 : Int)) =
 IntKind.wrap IntKind.i64 (a + (1 : Int)) ∧
 x.fst = x.fst ∧
 True ∧
 x.snd.fst = x.snd.fst ∧
 (↑(List.length x.snd.fst) : Int) =
 (↑(List.length x.snd.fst) : Int)) ∧
 ((a_1 ++
 [((List.getD x.snd.fst (Int.toNat a)
 (Ty.dflt t36)).fst,
 List.getD x.snd.fst (Int.toNat a)
 (Ty.dflt t36),
 ())] =
 a_1 ++
 [((List.getD x.snd.fst (Int.toNat a)
 (Ty.dflt t36)).fst,
 List.getD x.snd.fst (Int.toNat a)
 (Ty.dflt t36),
 ())] ∧
 True) ∧
 x.fst = x.fst ∧ True ∧ True) ∧
 x.snd.fst = x.snd.fst ∧ True) ∧
 Z
 (IntKind.wrap IntKind.i64 (a + (1 : Int)),
 a_1 ++
 [((List.getD x.snd.fst (Int.toNat a)
 (Ty.dflt t36)).fst,
 List.getD x.snd.fst (Int.toNat a)
 (Ty.dflt t36),
 ())],
 ()) ∧
 μ
 (IntKind.wrap IntKind.i64 (a + (1 : Int)),
 a_1 ++
 [((List.getD x.snd.fst (Int.toNat a)
 (Ty.dflt t36)).fst,
 List.getD x.snd.fst (Int.toNat a)
 (Ty.dflt t36),
 ())],
 ()) <
 μ (a, a_1, ())))) ∧
 (((List.getD x.snd.fst (Int.toNat a) (Ty.dflt t36)).snd.snd.fst !=
 (0 : Int)) =
 false →
 (Option.isSome
 (mget t3 t36
 (List.getD x.snd.fst (Int.toNat a) (Ty.dflt t36)).fst
 a_1) =
 true →
 (none, (8 : Int), ()) = newA x.fst x.snd.fst) ∧
 (Option.isSome
 (mget t3 t36
 (List.getD x.snd.fst (Int.toNat a) (Ty.dflt t36)).fst
 a_1) =
 false →
 ((mget t3 t36
 (List.getD x.snd.fst (Int.toNat a) (Ty.dflt t36)).fst
 a_1 =
 none ∧
 ((IntKind.wrap IntKind.i64 (a + (1 : Int)) =
 IntKind.wrap IntKind.i64 (a + (1 : Int)) ∧
 x.fst = x.fst ∧
 True ∧
 x.snd.fst = x.snd.fst ∧
 (↑(List.length x.snd.fst) : Int) =
 (↑(List.length x.snd.fst) : Int)) ∧
 ((a_1 ++
 [((List.getD x.snd.fst (Int.toNat a)
 (Ty.dflt t36)).fst,
 List.getD x.snd.fst (Int.toNat a)
 (Ty.dflt t36),
 ())] =
 a_1 ++
 [((List.getD x.snd.fst (Int.toNat a)
 (Ty.dflt t36)).fst,
 List.getD x.snd.fst (Int.toNat a)
 (Ty.dflt t36),
 ())] ∧
 True) ∧
 x.fst = x.fst ∧ True ∧ True) ∧
 x.snd.fst = x.snd.fst ∧ True) ∧
 Z
 (IntKind.wrap IntKind.i64 (a + (1 : Int)),
 a_1 ++
 [((List.getD x.snd.fst (Int.toNat a)
 (Ty.dflt t36)).fst,
 List.getD x.snd.fst (Int.toNat a)
 (Ty.dflt t36),
 ())],
 ()) ∧
 μ
 (IntKind.wrap IntKind.i64 (a + (1 : Int)),
 a_1 ++
 [((List.getD x.snd.fst (Int.toNat a)
 (Ty.dflt t36)).fst,
 List.getD x.snd.fst (Int.toNat a)
 (Ty.dflt t36),
 ())],
 ()) <
 μ (a, a_1, ())) ∧
 mget t3 t36
 (List.getD x.snd.fst (Int.toNat a) (Ty.dflt t36)).fst
 a_1 =
 none ∧
 ((IntKind.wrap IntKind.i64 (a + (1 : Int)) =
 IntKind.wrap IntKind.i64 (a + (1 : Int)) ∧
 x.fst = x.fst ∧
 True ∧
 x.snd.fst = x.snd.fst ∧
 (↑(List.length x.snd.fst) : Int) =
 (↑(List.length x.snd.fst) : Int)) ∧
 ((a_1 ++
 [((List.getD x.snd.fst (Int.toNat a)
 (Ty.dflt t36)).fst,
 List.getD x.snd.fst (Int.toNat a)
 (Ty.dflt t36),
 ())] =
 a_1 ++
 [((List.getD x.snd.fst (Int.toNat a)
 (Ty.dflt t36)).fst,
 List.getD x.snd.fst (Int.toNat a)
 (Ty.dflt t36),
 ())] ∧
 True) ∧
 x.fst = x.fst ∧ True ∧ True) ∧
 x.snd.fst = x.snd.fst ∧ True) ∧
 Z
 (IntKind.wrap IntKind.i64 (a + (1 : Int)),
 a_1 ++
 [((List.getD x.snd.fst (Int.toNat a)
 (Ty.dflt t36)).fst,
 List.getD x.snd.fst (Int.toNat a)
 (Ty.dflt t36),
 ())],
 ()) ∧
 μ
 (IntKind.wrap IntKind.i64 (a + (1 : Int)),
 a_1 ++
 [((List.getD x.snd.fst (Int.toNat a)
 (Ty.dflt t36)).fst,
 List.getD x.snd.fst (Int.toNat a)
 (Ty.dflt t36),
 ())],
 ()) <
 μ (a, a_1, ())) ∧
 ((mget t3 t36
 (List.getD x.snd.fst (Int.toNat a)
 (Ty.dflt t36)).fst
 a_1 =
 none ∧
 ((IntKind.wrap IntKind.i64 (a + (1 : Int)) =
 IntKind.wrap IntKind.i64 (a + (1 : Int)) ∧
 x.fst = x.fst ∧
 True ∧
 x.snd.fst = x.snd.fst ∧
 (↑(List.length x.snd.fst) : Int) =
 (↑(List.length x.snd.fst) : Int)) ∧
 ((a_1 ++
 [((List.getD x.snd.fst (Int.toNat a)
 (Ty.dflt t36)).fst,
 List.getD x.snd.fst (Int.toNat a)
 (Ty.dflt t36),
 ())] =
 a_1 ++
 [((List.getD x.snd.fst (Int.toNat a)
 (Ty.dflt t36)).fst,
 List.getD x.snd.fst (Int.toNat a)
 (Ty.dflt t36),
 ())] ∧
 True) ∧
 x.fst = x.fst ∧ True ∧ True) ∧
 x.snd.fst = x.snd.fst ∧ True) ∧
 Z
 (IntKind.wrap IntKind.i64 (a + (1 : Int)),
 a_1 ++
 [((List.getD x.snd.fst (Int.toNat a)
 (Ty.dflt t36)).fst,
 List.getD x.snd.fst (Int.toNat a)
 (Ty.dflt t36),
 ())],
 ()) ∧
 μ
 (IntKind.wrap IntKind.i64 (a + (1 : Int)),
 a_1 ++
 [((List.getD x.snd.fst (Int.toNat a)
 (Ty.dflt t36)).fst,
 List.getD x.snd.fst (Int.toNat a)
 (Ty.dflt t36),
 ())],
 ()) <
 μ (a, a_1, ())) ∧
 mget t3 t36
 (List.getD x.snd.fst (Int.toNat a)
 (Ty.dflt t36)).fst
 a_1 =
 none ∧
 ((IntKind.wrap IntKind.i64 (a + (1 : Int)) =
 IntKind.wrap IntKind.i64 (a + (1 : Int)) ∧
 x.fst = x.fst ∧
 True ∧
 x.snd.fst = x.snd.fst ∧
 (↑(List.length x.snd.fst) : Int) =
 (↑(List.length x.snd.fst) : Int)) ∧
 ((a_1 ++
 [((List.getD x.snd.fst (Int.toNat a)
 (Ty.dflt t36)).fst,
 List.getD x.snd.fst (Int.toNat a)
 (Ty.dflt t36),
 ())] =
 a_1 ++
 [((List.getD x.snd.fst (Int.toNat a)
 (Ty.dflt t36)).fst,
 List.getD x.snd.fst (Int.toNat a)
 (Ty.dflt t36),
 ())] ∧
 True) ∧
 x.fst = x.fst ∧ True ∧ True) ∧
 x.snd.fst = x.snd.fst ∧ True) ∧
 Z
 (IntKind.wrap IntKind.i64 (a + (1 : Int)),
 a_1 ++
 [((List.getD x.snd.fst (Int.toNat a)
 (Ty.dflt t36)).fst,
 List.getD x.snd.fst (Int.toNat a)
 (Ty.dflt t36),
 ())],
 ()) ∧
 μ
 (IntKind.wrap IntKind.i64 (a + (1 : Int)),
 a_1 ++
 [((List.getD x.snd.fst (Int.toNat a)
 (Ty.dflt t36)).fst,
 List.getD x.snd.fst (Int.toNat a)
 (Ty.dflt t36),
 ())],
 ()) <
 μ (a, a_1, ())) ∧
 (mget t3 t36
 (List.getD x.snd.fst (Int.toNat a)
 (Ty.dflt t36)).fst
 a_1 =
 none ∧
 ((IntKind.wrap IntKind.i64 (a + (1 : Int)) =
 IntKind.wrap IntKind.i64 (a + (1 : Int)) ∧
 x.fst = x.fst ∧
 True ∧
 x.snd.fst = x.snd.fst ∧
 (↑(List.length x.snd.fst) : Int) =
 (↑(List.length x.snd.fst) : Int)) ∧
 ((a_1 ++
 [((List.getD x.snd.fst (Int.toNat a)
 (Ty.dflt t36)).fst,
 List.getD x.snd.fst (Int.toNat a)
 (Ty.dflt t36),
 ())] =
 a_1 ++
 [((List.getD x.snd.fst (Int.toNat a)
 (Ty.dflt t36)).fst,
 List.getD x.snd.fst (Int.toNat a)
 (Ty.dflt t36),
 ())] ∧
 True) ∧
 x.fst = x.fst ∧ True ∧ True) ∧
 x.snd.fst = x.snd.fst ∧ True) ∧
 Z
 (IntKind.wrap IntKind.i64 (a + (1 : Int)),
 a_1 ++
 [((List.getD x.snd.fst (Int.toNat a)
 (Ty.dflt t36)).fst,
 List.getD x.snd.fst (Int.toNat a)
 (Ty.dflt t36),
 ())],
 ()) ∧
 μ
 (IntKind.wrap IntKind.i64 (a + (1 : Int)),
 a_1 ++
 [((List.getD x.snd.fst (Int.toNat a)
 (Ty.dflt t36)).fst,
 List.getD x.snd.fst (Int.toNat a)
 (Ty.dflt t36),
 ())],
 ()) <
 μ (a, a_1, ())) ∧
 mget t3 t36
 (List.getD x.snd.fst (Int.toNat a)
 (Ty.dflt t36)).fst
 a_1 =
 none ∧
 ((IntKind.wrap IntKind.i64 (a + (1 : Int)) =
 IntKind.wrap IntKind.i64 (a + (1 : Int)) ∧
 x.fst = x.fst ∧
 True ∧
 x.snd.fst = x.snd.fst ∧
 (↑(List.length x.snd.fst) : Int) =
 (↑(List.length x.snd.fst) : Int)) ∧
 ((a_1 ++
 [((List.getD x.snd.fst (Int.toNat a)
 (Ty.dflt t36)).fst,
 List.getD x.snd.fst (Int.toNat a)
 (Ty.dflt t36),
 ())] =
 a_1 ++
 [((List.getD x.snd.fst (Int.toNat a)
 (Ty.dflt t36)).fst,
 List.getD x.snd.fst (Int.toNat a)
 (Ty.dflt t36),
 ())] ∧
 True) ∧
 x.fst = x.fst ∧ True ∧ True) ∧
 x.snd.fst = x.snd.fst ∧ True) ∧
 Z
 (IntKind.wrap IntKind.i64 (a + (1 : Int)),
 a_1 ++
 [((List.getD x.snd.fst (Int.toNat a)
 (Ty.dflt t36)).fst,
 List.getD x.snd.fst (Int.toNat a)
 (Ty.dflt t36),
 ())],
 ()) ∧
 μ
 (IntKind.wrap IntKind.i64 (a + (1 : Int)),
 a_1 ++
 [((List.getD x.snd.fst (Int.toNat a)
 (Ty.dflt t36)).fst,
 List.getD x.snd.fst (Int.toNat a)
 (Ty.dflt t36),
 ())],
 ()) <
 μ (a, a_1, ())))))) ∧
 ((((decide
 ((List.getD x.snd.fst (Int.toNat a) (Ty.dflt t36)).snd.fst <
 (0 : Int)) =
 true →
 (none, (1 : Int), ()) = newA x.fst x.snd.fst) ∧
 (decide
 ((List.getD x.snd.fst (Int.toNat a) (Ty.dflt t36)).snd.fst <
 (0 : Int)) =
 false →
 (decide
 ((List.getD x.snd.fst (Int.toNat a) (Ty.dflt t36)).snd.fst >
 x.fst) =
 true →
 (none, (1 : Int), ()) = newA x.fst x.snd.fst) ∧
 (decide
 ((List.getD x.snd.fst (Int.toNat a) (Ty.dflt t36)).snd.fst >
 x.fst) =
 false →
 (((List.getD x.snd.fst (Int.toNat a) (Ty.dflt t36)).snd.snd.fst !=
 (0 : Int)) =
 true →
 (((List.getD x.snd.fst (Int.toNat a)
 (Ty.dflt t36)).snd.snd.fst !=
 (1 : Int)) =
 true →
 (none, (1 : Int), ()) = newA x.fst x.snd.fst) ∧
 (((List.getD x.snd.fst (Int.toNat a)
 (Ty.dflt t36)).snd.snd.fst !=
 (1 : Int)) =
 false →
 (Option.isSome
 (mget t3 t36
 (List.getD x.snd.fst (Int.toNat a)
 (Ty.dflt t36)).fst
 a_1) =
 true →
 (none, (8 : Int), ()) = newA x.fst x.snd.fst) ∧
 (Option.isSome
 (mget t3 t36
 (List.getD x.snd.fst (Int.toNat a)
 (Ty.dflt t36)).fst
 a_1) =
 false →
 ((mget t3 t36
 (List.getD x.snd.fst (Int.toNat a)
 (Ty.dflt t36)).fst
 a_1 =
 none ∧
 ((IntKind.wrap IntKind.i64 (a + (1 : Int)) =
 IntKind.wrap IntKind.i64 (a + (1 : Int)) ∧
 x.fst = x.fst ∧
 True ∧
 x.snd.fst = x.snd.fst ∧
 (↑(List.length x.snd.fst) : Int) =
 (↑(List.length x.snd.fst) : Int)) ∧
 ((a_1 ++
 [((List.getD x.snd.fst (Int.toNat a)
 (Ty.dflt t36)).fst,
 List.getD x.snd.fst
 (Int.toNat a) (Ty.dflt t36),
 ())] =
 a_1 ++
 [((List.getD x.snd.fst (Int.toNat a)
 (Ty.dflt t36)).fst,
 List.getD x.snd.fst
 (Int.toNat a) (Ty.dflt t36),
 ())] ∧
 True) ∧
 x.fst = x.fst ∧ True ∧ True) ∧
 x.snd.fst = x.snd.fst ∧ True) ∧
 Z
 (IntKind.wrap IntKind.i64 (a + (1 : Int)),
 a_1 ++
 [((List.getD x.snd.fst (Int.toNat a)
 (Ty.dflt t36)).fst,
 List.getD x.snd.fst (Int.toNat a)
 (Ty.dflt t36),
 ())],
 ()) ∧
 μ
 (IntKind.wrap IntKind.i64 (a + (1 : Int)),
 a_1 ++
 [((List.getD x.snd.fst (Int.toNat a)
 (Ty.dflt t36)).fst,
 List.getD x.snd.fst (Int.toNat a)
 (Ty.dflt t36),
 ())],
 ()) <
 μ (a, a_1, ())) ∧
 mget t3 t36
 (List.getD x.snd.fst (Int.toNat a)
 (Ty.dflt t36)).fst
 a_1 =
 none ∧
 ((IntKind.wrap IntKind.i64 (a + (1 : Int)) =
 IntKind.wrap IntKind.i64 (a + (1 : Int)) ∧
 x.fst = x.fst ∧
 True ∧
 x.snd.fst = x.snd.fst ∧
 (↑(List.length x.snd.fst) : Int) =
 (↑(List.length x.snd.fst) : Int)) ∧
 ((a_1 ++
 [((List.getD x.snd.fst (Int.toNat a)
 (Ty.dflt t36)).fst,
 List.getD x.snd.fst
 (Int.toNat a) (Ty.dflt t36),
 ())] =
 a_1 ++
 [((List.getD x.snd.fst (Int.toNat a)
 (Ty.dflt t36)).fst,
 List.getD x.snd.fst
 (Int.toNat a) (Ty.dflt t36),
 ())] ∧
 True) ∧
 x.fst = x.fst ∧ True ∧ True) ∧
 x.snd.fst = x.snd.fst ∧ True) ∧
 Z
 (IntKind.wrap IntKind.i64 (a + (1 : Int)),
 a_1 ++
 [((List.getD x.snd.fst (Int.toNat a)
 (Ty.dflt t36)).fst,
 List.getD x.snd.fst (Int.toNat a)
 (Ty.dflt t36),
 ())],
 ()) ∧
 μ
 (IntKind.wrap IntKind.i64 (a + (1 : Int)),
 a_1 ++
 [((List.getD x.snd.fst (Int.toNat a)
 (Ty.dflt t36)).fst,
 List.getD x.snd.fst (Int.toNat a)
 (Ty.dflt t36),
 ())],
 ()) <
 μ (a, a_1, ())) ∧
 ((mget t3 t36
 (List.getD x.snd.fst (Int.toNat a)
 (Ty.dflt t36)).fst
 a_1 =
 none ∧
 ((IntKind.wrap IntKind.i64 (a + (1 : Int)) =
 IntKind.wrap IntKind.i64
 (a + (1 : Int)) ∧
 x.fst = x.fst ∧
 True ∧
 x.snd.fst = x.snd.fst ∧
 (↑(List.length x.snd.fst) : Int) =
 (↑(List.length x.snd.fst) :
 Int)) ∧
 ((a_1 ++
 [((List.getD x.snd.fst
 (Int.toNat a)
 (Ty.dflt t36)).fst,
 List.getD x.snd.fst
 (Int.toNat a) (Ty.dflt t36),
 ())] =
 a_1 ++
 [((List.getD x.snd.fst
 (Int.toNat a)
 (Ty.dflt t36)).fst,
 List.getD x.snd.fst
 (Int.toNat a) (Ty.dflt t36),
 ())] ∧
 True) ∧
 x.fst = x.fst ∧ True ∧ True) ∧
 x.snd.fst = x.snd.fst ∧ True) ∧
 Z
 (IntKind.wrap IntKind.i64 (a + (1 : Int)),
 a_1 ++
 [((List.getD x.snd.fst (Int.toNat a)
 (Ty.dflt t36)).fst,
 List.getD x.snd.fst (Int.toNat a)
 (Ty.dflt t36),
 ())],
 ()) ∧
 μ
 (IntKind.wrap IntKind.i64
 (a + (1 : Int)),
 a_1 ++
 [((List.getD x.snd.fst (Int.toNat a)
 (Ty.dflt t36)).fst,
 List.getD x.snd.fst
 (Int.toNat a) (Ty.dflt t36),
 ())],
 ()) <
 μ (a, a_1, ())) ∧
 mget t3 t36
 (List.getD x.snd.fst (Int.toNat a)
 (Ty.dflt t36)).fst
 a_1 =
 none ∧
 ((IntKind.wrap IntKind.i64 (a + (1 : Int)) =
 IntKind.wrap IntKind.i64
 (a + (1 : Int)) ∧
 x.fst = x.fst ∧
 True ∧
 x.snd.fst = x.snd.fst ∧
 (↑(List.length x.snd.fst) : Int) =
 (↑(List.length x.snd.fst) :
 Int)) ∧
 ((a_1 ++
 [((List.getD x.snd.fst
 (Int.toNat a)
 (Ty.dflt t36)).fst,
 List.getD x.snd.fst
 (Int.toNat a) (Ty.dflt t36),
 ())] =
 a_1 ++
 [((List.getD x.snd.fst
 (Int.toNat a)
 (Ty.dflt t36)).fst,
 List.getD x.snd.fst
 (Int.toNat a) (Ty.dflt t36),
 ())] ∧
 True) ∧
 x.fst = x.fst ∧ True ∧ True) ∧
 x.snd.fst = x.snd.fst ∧ True) ∧
 Z
 (IntKind.wrap IntKind.i64 (a + (1 : Int)),
 a_1 ++
 [((List.getD x.snd.fst (Int.toNat a)
 (Ty.dflt t36)).fst,
 List.getD x.snd.fst (Int.toNat a)
 (Ty.dflt t36),
 ())],
 ()) ∧
 μ
 (IntKind.wrap IntKind.i64
 (a + (1 : Int)),
 a_1 ++
 [((List.getD x.snd.fst (Int.toNat a)
 (Ty.dflt t36)).fst,
 List.getD x.snd.fst
 (Int.toNat a) (Ty.dflt t36),
 ())],
 ()) <
 μ (a, a_1, ())) ∧
 (mget t3 t36
 (List.getD x.snd.fst (Int.toNat a)
 (Ty.dflt t36)).fst
 a_1 =
 none ∧
 ((IntKind.wrap IntKind.i64 (a + (1 : Int)) =
 IntKind.wrap IntKind.i64
 (a + (1 : Int)) ∧
 x.fst = x.fst ∧
 True ∧
 x.snd.fst = x.snd.fst ∧
 (↑(List.length x.snd.fst) : Int) =
 (↑(List.length x.snd.fst) :
 Int)) ∧
 ((a_1 ++
 [((List.getD x.snd.fst
 (Int.toNat a)
 (Ty.dflt t36)).fst,
 List.getD x.snd.fst
 (Int.toNat a) (Ty.dflt t36),
 ())] =
 a_1 ++
 [((List.getD x.snd.fst
 (Int.toNat a)
 (Ty.dflt t36)).fst,
 List.getD x.snd.fst
 (Int.toNat a) (Ty.dflt t36),
 ())] ∧
 True) ∧
 x.fst = x.fst ∧ True ∧ True) ∧
 x.snd.fst = x.snd.fst ∧ True) ∧
 Z
 (IntKind.wrap IntKind.i64 (a + (1 : Int)),
 a_1 ++
 [((List.getD x.snd.fst (Int.toNat a)
 (Ty.dflt t36)).fst,
 List.getD x.snd.fst (Int.toNat a)
 (Ty.dflt t36),
 ())],
 ()) ∧
 μ
 (IntKind.wrap IntKind.i64
 (a + (1 : Int)),
 a_1 ++
 [((List.getD x.snd.fst (Int.toNat a)
 (Ty.dflt t36)).fst,
 List.getD x.snd.fst
 (Int.toNat a) (Ty.dflt t36),
 ())],
 ()) <
 μ (a, a_1, ())) ∧
 mget t3 t36
 (List.getD x.snd.fst (Int.toNat a)
 (Ty.dflt t36)).fst
 a_1 =
 none ∧
 ((IntKind.wrap IntKind.i64 (a + (1 : Int)) =
 IntKind.wrap IntKind.i64
 (a + (1 : Int)) ∧
 x.fst = x.fst ∧
 True ∧
 x.snd.fst = x.snd.fst ∧
 (↑(List.length x.snd.fst) : Int) =
 (↑(List.length x.snd.fst) :
 Int)) ∧
 ((a_1 ++
 [((List.getD x.snd.fst
 (Int.toNat a)
 (Ty.dflt t36)).fst,
 List.getD x.snd.fst
 (Int.toNat a) (Ty.dflt t36),
 ())] =
 a_1 ++
 [((List.getD x.snd.fst
 (Int.toNat a)
 (Ty.dflt t36)).fst,
 List.getD x.snd.fst
 (Int.toNat a) (Ty.dflt t36),
 ())] ∧
 True) ∧
 x.fst = x.fst ∧ True ∧ True) ∧
 x.snd.fst = x.snd.fst ∧ True) ∧
 Z
 (IntKind.wrap IntKind.i64 (a + (1 : Int)),
 a_1 ++
 [((List.getD x.snd.fst (Int.toNat a)
 (Ty.dflt t36)).fst,
 List.getD x.snd.fst (Int.toNat a)
 (Ty.dflt t36),
 ())],
 ()) ∧
 μ
 (IntKind.wrap IntKind.i64
 (a + (1 : Int)),
 a_1 ++
 [((List.getD x.snd.fst (Int.toNat a)
 (Ty.dflt t36)).fst,
 List.getD x.snd.fst
 (Int.toNat a) (Ty.dflt t36),
 ())],
 ()) <
 μ (a, a_1, ())))) ∧
 (((List.getD x.snd.fst (Int.toNat a) (Ty.dflt t36)).snd.snd.fst !=
 (0 : Int)) =
 false →
 (Option.isSome
 (mget t3 t36
 (List.getD x.snd.fst (Int.toNat a) (Ty.dflt t36)).fst
 a_1) =
 true →
 (none, (8 : Int), ()) = newA x.fst x.snd.fst) ∧
 (Option.isSome
 (mget t3 t36
 (List.getD x.snd.fst (Int.toNat a) (Ty.dflt t36)).fst
 a_1) =
 false →
 ((mget t3 t36
 (List.getD x.snd.fst (Int.toNat a)
 (Ty.dflt t36)).fst
 a_1 =
 none ∧
 ((IntKind.wrap IntKind.i64 (a + (1 : Int)) =
 IntKind.wrap IntKind.i64 (a + (1 : Int)) ∧
 x.fst = x.fst ∧
 True ∧
 x.snd.fst = x.snd.fst ∧
 (↑(List.length x.snd.fst) : Int) =
 (↑(List.length x.snd.fst) : Int)) ∧
 ((a_1 ++
 [((List.getD x.snd.fst (Int.toNat a)
 (Ty.dflt t36)).fst,
 List.getD x.snd.fst (Int.toNat a)
 (Ty.dflt t36),
 ())] =
 a_1 ++
 [((List.getD x.snd.fst (Int.toNat a)
 (Ty.dflt t36)).fst,
 List.getD x.snd.fst (Int.toNat a)
 (Ty.dflt t36),
 ())] ∧
 True) ∧
 x.fst = x.fst ∧ True ∧ True) ∧
 x.snd.fst = x.snd.fst ∧ True) ∧
 Z
 (IntKind.wrap IntKind.i64 (a + (1 : Int)),
 a_1 ++
 [((List.getD x.snd.fst (Int.toNat a)
 (Ty.dflt t36)).fst,
 List.getD x.snd.fst (Int.toNat a)
 (Ty.dflt t36),
 ())],
 ()) ∧
 μ
 (IntKind.wrap IntKind.i64 (a + (1 : Int)),
 a_1 ++
 [((List.getD x.snd.fst (Int.toNat a)
 (Ty.dflt t36)).fst,
 List.getD x.snd.fst (Int.toNat a)
 (Ty.dflt t36),
 ())],
 ()) <
 μ (a, a_1, ())) ∧
 mget t3 t36
 (List.getD x.snd.fst (Int.toNat a)
 (Ty.dflt t36)).fst
 a_1 =
 none ∧
 ((IntKind.wrap IntKind.i64 (a + (1 : Int)) =
 IntKind.wrap IntKind.i64 (a + (1 : Int)) ∧
 x.fst = x.fst ∧
 True ∧
 x.snd.fst = x.snd.fst ∧
 (↑(List.length x.snd.fst) : Int) =
 (↑(List.length x.snd.fst) : Int)) ∧
 ((a_1 ++
 [((List.getD x.snd.fst (Int.toNat a)
 (Ty.dflt t36)).fst,
 List.getD x.snd.fst (Int.toNat a)
 (Ty.dflt t36),
 ())] =
 a_1 ++
 [((List.getD x.snd.fst (Int.toNat a)
 (Ty.dflt t36)).fst,
 List.getD x.snd.fst (Int.toNat a)
 (Ty.dflt t36),
 ())] ∧
 True) ∧
 x.fst = x.fst ∧ True ∧ True) ∧
 x.snd.fst = x.snd.fst ∧ True) ∧
 Z
 (IntKind.wrap IntKind.i64 (a + (1 : Int)),
 a_1 ++
 [((List.getD x.snd.fst (Int.toNat a)
 (Ty.dflt t36)).fst,
 List.getD x.snd.fst (Int.toNat a)
 (Ty.dflt t36),
 ())],
 ()) ∧
 μ
 (IntKind.wrap IntKind.i64 (a + (1 : Int)),
 a_1 ++
 [((List.getD x.snd.fst (Int.toNat a)
 (Ty.dflt t36)).fst,
 List.getD x.snd.fst (Int.toNat a)
 (Ty.dflt t36),
 ())],
 ()) <
 μ (a, a_1, ())) ∧
 ((mget t3 t36
 (List.getD x.snd.fst (Int.toNat a)
 (Ty.dflt t36)).fst
 a_1 =
 none ∧
 ((IntKind.wrap IntKind.i64 (a + (1 : Int)) =
 IntKind.wrap IntKind.i64 (a + (1 : Int)) ∧
 x.fst = x.fst ∧
 True ∧
 x.snd.fst = x.snd.fst ∧
 (↑(List.length x.snd.fst) : Int) =
 (↑(List.length x.snd.fst) : Int)) ∧
 ((a_1 ++
 [((List.getD x.snd.fst (Int.toNat a)
 (Ty.dflt t36)).fst,
 List.getD x.snd.fst (Int.toNat a)
 (Ty.dflt t36),
 ())] =
 a_1 ++
 [((List.getD x.snd.fst (Int.toNat a)
 (Ty.dflt t36)).fst,
 List.getD x.snd.fst (Int.toNat a)
 (Ty.dflt t36),
 ())] ∧
 True) ∧
 x.fst = x.fst ∧ True ∧ True) ∧
 x.snd.fst = x.snd.fst ∧ True) ∧
 Z
 (IntKind.wrap IntKind.i64 (a + (1 : Int)),
 a_1 ++
 [((List.getD x.snd.fst (Int.toNat a)
 (Ty.dflt t36)).fst,
 List.getD x.snd.fst (Int.toNat a)
 (Ty.dflt t36),
 ())],
 ()) ∧
 μ
 (IntKind.wrap IntKind.i64 (a + (1 : Int)),
 a_1 ++
 [((List.getD x.snd.fst (Int.toNat a)
 (Ty.dflt t36)).fst,
 List.getD x.snd.fst (Int.toNat a)
 (Ty.dflt t36),
 ())],
 ()) <
 μ (a, a_1, ())) ∧
 mget t3 t36
 (List.getD x.snd.fst (Int.toNat a)
 (Ty.dflt t36)).fst
 a_1 =
 none ∧
 ((IntKind.wrap IntKind.i64 (a + (1 : Int)) =
 IntKind.wrap IntKind.i64 (a + (1 : Int)) ∧
 x.fst = x.fst ∧
 True ∧
 x.snd.fst = x.snd.fst ∧
 (↑(List.length x.snd.fst) : Int) =
 (↑(List.length x.snd.fst) : Int)) ∧
 ((a_1 ++
 [((List.getD x.snd.fst (Int.toNat a)
 (Ty.dflt t36)).fst,
 List.getD x.snd.fst (Int.toNat a)
 (Ty.dflt t36),
 ())] =
 a_1 ++
 [((List.getD x.snd.fst (Int.toNat a)
 (Ty.dflt t36)).fst,
 List.getD x.snd.fst (Int.toNat a)
 (Ty.dflt t36),
 ())] ∧
 True) ∧
 x.fst = x.fst ∧ True ∧ True) ∧
 x.snd.fst = x.snd.fst ∧ True) ∧
 Z
 (IntKind.wrap IntKind.i64 (a + (1 : Int)),
 a_1 ++
 [((List.getD x.snd.fst (Int.toNat a)
 (Ty.dflt t36)).fst,
 List.getD x.snd.fst (Int.toNat a)
 (Ty.dflt t36),
 ())],
 ()) ∧
 μ
 (IntKind.wrap IntKind.i64 (a + (1 : Int)),
 a_1 ++
 [((List.getD x.snd.fst (Int.toNat a)
 (Ty.dflt t36)).fst,
 List.getD x.snd.fst (Int.toNat a)
 (Ty.dflt t36),
 ())],
 ()) <
 μ (a, a_1, ())) ∧
 (mget t3 t36
 (List.getD x.snd.fst (Int.toNat a)
 (Ty.dflt t36)).fst
 a_1 =
 none ∧
 ((IntKind.wrap IntKind.i64 (a + (1 : Int)) =
 IntKind.wrap IntKind.i64 (a + (1 : Int)) ∧
 x.fst = x.fst ∧
 True ∧
 x.snd.fst = x.snd.fst ∧
 (↑(List.length x.snd.fst) : Int) =
 (↑(List.length x.snd.fst) : Int)) ∧
 ((a_1 ++
 [((List.getD x.snd.fst (Int.toNat a)
 (Ty.dflt t36)).fst,
 List.getD x.snd.fst (Int.toNat a)
 (Ty.dflt t36),
 ())] =
 a_1 ++
 [((List.getD x.snd.fst (Int.toNat a)
 (Ty.dflt t36)).fst,
 List.getD x.snd.fst (Int.toNat a)
 (Ty.dflt t36),
 ())] ∧
 True) ∧
 x.fst = x.fst ∧ True ∧ True) ∧
 x.snd.fst = x.snd.fst ∧ True) ∧
 Z
 (IntKind.wrap IntKind.i64 (a + (1 : Int)),
 a_1 ++
 [((List.getD x.snd.fst (Int.toNat a)
 (Ty.dflt t36)).fst,
 List.getD x.snd.fst (Int.toNat a)
 (Ty.dflt t36),
 ())],
 ()) ∧
 μ
 (IntKind.wrap IntKind.i64 (a + (1 : Int)),
 a_1 ++
 [((List.getD x.snd.fst (Int.toNat a)
 (Ty.dflt t36)).fst,
 List.getD x.snd.fst (Int.toNat a)
 (Ty.dflt t36),
 ())],
 ()) <
 μ (a, a_1, ())) ∧
 mget t3 t36
 (List.getD x.snd.fst (Int.toNat a)
 (Ty.dflt t36)).fst
 a_1 =
 none ∧
 ((IntKind.wrap IntKind.i64 (a + (1 : Int)) =
 IntKind.wrap IntKind.i64 (a + (1 : Int)) ∧
 x.fst = x.fst ∧
 True ∧
 x.snd.fst = x.snd.fst ∧
 (↑(List.length x.snd.fst) : Int) =
 (↑(List.length x.snd.fst) : Int)) ∧
 ((a_1 ++
 [((List.getD x.snd.fst (Int.toNat a)
 (Ty.dflt t36)).fst,
 List.getD x.snd.fst (Int.toNat a)
 (Ty.dflt t36),
 ())] =
 a_1 ++
 [((List.getD x.snd.fst (Int.toNat a)
 (Ty.dflt t36)).fst,
 List.getD x.snd.fst (Int.toNat a)
 (Ty.dflt t36),
 ())] ∧
 True) ∧
 x.fst = x.fst ∧ True ∧ True) ∧
 x.snd.fst = x.snd.fst ∧ True) ∧
 Z
 (IntKind.wrap IntKind.i64 (a + (1 : Int)),
 a_1 ++
 [((List.getD x.snd.fst (Int.toNat a)
 (Ty.dflt t36)).fst,
 List.getD x.snd.fst (Int.toNat a)
 (Ty.dflt t36),
 ())],
 ()) ∧
 μ
 (IntKind.wrap IntKind.i64 (a + (1 : Int)),
 a_1 ++
 [((List.getD x.snd.fst (Int.toNat a)
 (Ty.dflt t36)).fst,
 List.getD x.snd.fst (Int.toNat a)
 (Ty.dflt t36),
 ())],
 ()) <
 μ (a, a_1, ())))))) ∧
 (decide
 ((List.getD x.snd.fst (Int.toNat a) (Ty.dflt t36)).snd.fst <
 (0 : Int)) =
 true →
 (none, (1 : Int), ()) = newA x.fst x.snd.fst) ∧
 (decide
 ((List.getD x.snd.fst (Int.toNat a) (Ty.dflt t36)).snd.fst <
 (0 : Int)) =
 false →
 (decide
 ((List.getD x.snd.fst (Int.toNat a) (Ty.dflt t36)).snd.fst >
 x.fst) =
 true →
 (none, (1 : Int), ()) = newA x.fst x.snd.fst) ∧
 (decide
 ((List.getD x.snd.fst (Int.toNat a) (Ty.dflt t36)).snd.fst >
 x.fst) =
 false →
 (((List.getD x.snd.fst (Int.toNat a) (Ty.dflt t36)).snd.snd.fst !=
 (0 : Int)) =
 true →
 (((List.getD x.snd.fst (Int.toNat a)
 (Ty.dflt t36)).snd.snd.fst !=
 (1 : Int)) =
 true →
 (none, (1 : Int), ()) = newA x.fst x.snd.fst) ∧
 (((List.getD x.snd.fst (Int.toNat a)
 (Ty.dflt t36)).snd.snd.fst !=
 (1 : Int)) =
 false →
 (Option.isSome
 (mget t3 t36
 (List.getD x.snd.fst (Int.toNat a)
 (Ty.dflt t36)).fst
 a_1) =
 true →
 (none, (8 : Int), ()) = newA x.fst x.snd.fst) ∧
 (Option.isSome
 (mget t3 t36
 (List.getD x.snd.fst (Int.toNat a)
 (Ty.dflt t36)).fst
 a_1) =
 false →
 ((mget t3 t36
 (List.getD x.snd.fst (Int.toNat a)
 (Ty.dflt t36)).fst
 a_1 =
 none ∧
 ((IntKind.wrap IntKind.i64 (a + (1 : Int)) =
 IntKind.wrap IntKind.i64 (a + (1 : Int)) ∧
 x.fst = x.fst ∧
 True ∧
 x.snd.fst = x.snd.fst ∧
 (↑(List.length x.snd.fst) : Int) =
 (↑(List.length x.snd.fst) : Int)) ∧
 ((a_1 ++
 [((List.getD x.snd.fst (Int.toNat a)
 (Ty.dflt t36)).fst,
 List.getD x.snd.fst
 (Int.toNat a) (Ty.dflt t36),
 ())] =
 a_1 ++
 [((List.getD x.snd.fst (Int.toNat a)
 (Ty.dflt t36)).fst,
 List.getD x.snd.fst
 (Int.toNat a) (Ty.dflt t36),
 ())] ∧
 True) ∧
 x.fst = x.fst ∧ True ∧ True) ∧
 x.snd.fst = x.snd.fst ∧ True) ∧
 Z
 (IntKind.wrap IntKind.i64 (a + (1 : Int)),
 a_1 ++
 [((List.getD x.snd.fst (Int.toNat a)
 (Ty.dflt t36)).fst,
 List.getD x.snd.fst (Int.toNat a)
 (Ty.dflt t36),
 ())],
 ()) ∧
 μ
 (IntKind.wrap IntKind.i64 (a + (1 : Int)),
 a_1 ++
 [((List.getD x.snd.fst (Int.toNat a)
 (Ty.dflt t36)).fst,
 List.getD x.snd.fst (Int.toNat a)
 (Ty.dflt t36),
 ())],
 ()) <
 μ (a, a_1, ())) ∧
 mget t3 t36
 (List.getD x.snd.fst (Int.toNat a)
 (Ty.dflt t36)).fst
 a_1 =
 none ∧
 ((IntKind.wrap IntKind.i64 (a + (1 : Int)) =
 IntKind.wrap IntKind.i64 (a + (1 : Int)) ∧
 x.fst = x.fst ∧
 True ∧
 x.snd.fst = x.snd.fst ∧
 (↑(List.length x.snd.fst) : Int) =
 (↑(List.length x.snd.fst) : Int)) ∧
 ((a_1 ++
 [((List.getD x.snd.fst (Int.toNat a)
 (Ty.dflt t36)).fst,
 List.getD x.snd.fst
 (Int.toNat a) (Ty.dflt t36),
 ())] =
 a_1 ++
 [((List.getD x.snd.fst (Int.toNat a)
 (Ty.dflt t36)).fst,
 List.getD x.snd.fst
 (Int.toNat a) (Ty.dflt t36),
 ())] ∧
 True) ∧
 x.fst = x.fst ∧ True ∧ True) ∧
 x.snd.fst = x.snd.fst ∧ True) ∧
 Z
 (IntKind.wrap IntKind.i64 (a + (1 : Int)),
 a_1 ++
 [((List.getD x.snd.fst (Int.toNat a)
 (Ty.dflt t36)).fst,
 List.getD x.snd.fst (Int.toNat a)
 (Ty.dflt t36),
 ())],
 ()) ∧
 μ
 (IntKind.wrap IntKind.i64 (a + (1 : Int)),
 a_1 ++
 [((List.getD x.snd.fst (Int.toNat a)
 (Ty.dflt t36)).fst,
 List.getD x.snd.fst (Int.toNat a)
 (Ty.dflt t36),
 ())],
 ()) <
 μ (a, a_1, ())) ∧
 ((mget t3 t36
 (List.getD x.snd.fst (Int.toNat a)
 (Ty.dflt t36)).fst
 a_1 =
 none ∧
 ((IntKind.wrap IntKind.i64 (a + (1 : Int)) =
 IntKind.wrap IntKind.i64
 (a + (1 : Int)) ∧
 x.fst = x.fst ∧
 True ∧
 x.snd.fst = x.snd.fst ∧
 (↑(List.length x.snd.fst) : Int) =
 (↑(List.length x.snd.fst) :
 Int)) ∧
 ((a_1 ++
 [((List.getD x.snd.fst
 (Int.toNat a)
 (Ty.dflt t36)).fst,
 List.getD x.snd.fst
 (Int.toNat a) (Ty.dflt t36),
 ())] =
 a_1 ++
 [((List.getD x.snd.fst
 (Int.toNat a)
 (Ty.dflt t36)).fst,
 List.getD x.snd.fst
 (Int.toNat a) (Ty.dflt t36),
 ())] ∧
 True) ∧
 x.fst = x.fst ∧ True ∧ True) ∧
 x.snd.fst = x.snd.fst ∧ True) ∧
 Z
 (IntKind.wrap IntKind.i64 (a + (1 : Int)),
 a_1 ++
 [((List.getD x.snd.fst (Int.toNat a)
 (Ty.dflt t36)).fst,
 List.getD x.snd.fst (Int.toNat a)
 (Ty.dflt t36),
 ())],
 ()) ∧
 μ
 (IntKind.wrap IntKind.i64
 (a + (1 : Int)),
 a_1 ++
 [((List.getD x.snd.fst (Int.toNat a)
 (Ty.dflt t36)).fst,
 List.getD x.snd.fst
 (Int.toNat a) (Ty.dflt t36),
 ())],
 ()) <
 μ (a, a_1, ())) ∧
 mget t3 t36
 (List.getD x.snd.fst (Int.toNat a)
 (Ty.dflt t36)).fst
 a_1 =
 none ∧
 ((IntKind.wrap IntKind.i64 (a + (1 : Int)) =
 IntKind.wrap IntKind.i64
 (a + (1 : Int)) ∧
 x.fst = x.fst ∧
 True ∧
 x.snd.fst = x.snd.fst ∧
 (↑(List.length x.snd.fst) : Int) =
 (↑(List.length x.snd.fst) :
 Int)) ∧
 ((a_1 ++
 [((List.getD x.snd.fst
 (Int.toNat a)
 (Ty.dflt t36)).fst,
 List.getD x.snd.fst
 (Int.toNat a) (Ty.dflt t36),
 ())] =
 a_1 ++
 [((List.getD x.snd.fst
 (Int.toNat a)
 (Ty.dflt t36)).fst,
 List.getD x.snd.fst
 (Int.toNat a) (Ty.dflt t36),
 ())] ∧
 True) ∧
 x.fst = x.fst ∧ True ∧ True) ∧
 x.snd.fst = x.snd.fst ∧ True) ∧
 Z
 (IntKind.wrap IntKind.i64 (a + (1 : Int)),
 a_1 ++
 [((List.getD x.snd.fst (Int.toNat a)
 (Ty.dflt t36)).fst,
 List.getD x.snd.fst (Int.toNat a)
 (Ty.dflt t36),
 ())],
 ()) ∧
 μ
 (IntKind.wrap IntKind.i64
 (a + (1 : Int)),
 a_1 ++
 [((List.getD x.snd.fst (Int.toNat a)
 (Ty.dflt t36)).fst,
 List.getD x.snd.fst
 (Int.toNat a) (Ty.dflt t36),
 ())],
 ()) <
 μ (a, a_1, ())) ∧
 (mget t3 t36
 (List.getD x.snd.fst (Int.toNat a)
 (Ty.dflt t36)).fst
 a_1 =
 none ∧
 ((IntKind.wrap IntKind.i64 (a + (1 : Int)) =
 IntKind.wrap IntKind.i64
 (a + (1 : Int)) ∧
 x.fst = x.fst ∧
 True ∧
 x.snd.fst = x.snd.fst ∧
 (↑(List.length x.snd.fst) : Int) =
 (↑(List.length x.snd.fst) :
 Int)) ∧
 ((a_1 ++
 [((List.getD x.snd.fst
 (Int.toNat a)
 (Ty.dflt t36)).fst,
 List.getD x.snd.fst
 (Int.toNat a) (Ty.dflt t36),
 ())] =
 a_1 ++
 [((List.getD x.snd.fst
 (Int.toNat a)
 (Ty.dflt t36)).fst,
 List.getD x.snd.fst
 (Int.toNat a) (Ty.dflt t36),
 ())] ∧
 True) ∧
 x.fst = x.fst ∧ True ∧ True) ∧
 x.snd.fst = x.snd.fst ∧ True) ∧
 Z
 (IntKind.wrap IntKind.i64 (a + (1 : Int)),
 a_1 ++
 [((List.getD x.snd.fst (Int.toNat a)
 (Ty.dflt t36)).fst,
 List.getD x.snd.fst (Int.toNat a)
 (Ty.dflt t36),
 ())],
 ()) ∧
 μ
 (IntKind.wrap IntKind.i64
 (a + (1 : Int)),
 a_1 ++
 [((List.getD x.snd.fst (Int.toNat a)
 (Ty.dflt t36)).fst,
 List.getD x.snd.fst
 (Int.toNat a) (Ty.dflt t36),
 ())],
 ()) <
 μ (a, a_1, ())) ∧
 mget t3 t36
 (List.getD x.snd.fst (Int.toNat a)
 (Ty.dflt t36)).fst
 a_1 =
 none ∧
 ((IntKind.wrap IntKind.i64 (a + (1 : Int)) =
 IntKind.wrap IntKind.i64
 (a + (1 : Int)) ∧
 x.fst = x.fst ∧
 True ∧
 x.snd.fst = x.snd.fst ∧
 (↑(List.length x.snd.fst) : Int) =
 (↑(List.length x.snd.fst) :
 Int)) ∧
 ((a_1 ++
 [((List.getD x.snd.fst
 (Int.toNat a)
 (Ty.dflt t36)).fst,
 List.getD x.snd.fst
 (Int.toNat a) (Ty.dflt t36),
 ())] =
 a_1 ++
 [((List.getD x.snd.fst
 (Int.toNat a)
 (Ty.dflt t36)).fst,
 List.getD x.snd.fst
 (Int.toNat a) (Ty.dflt t36),
 ())] ∧
 True) ∧
 x.fst = x.fst ∧ True ∧ True) ∧
 x.snd.fst = x.snd.fst ∧ True) ∧
 Z
 (IntKind.wrap IntKind.i64 (a + (1 : Int)),
 a_1 ++
 [((List.getD x.snd.fst (Int.toNat a)
 (Ty.dflt t36)).fst,
 List.getD x.snd.fst (Int.toNat a)
 (Ty.dflt t36),
 ())],
 ()) ∧
 μ
 (IntKind.wrap IntKind.i64
 (a + (1 : Int)),
 a_1 ++
 [((List.getD x.snd.fst (Int.toNat a)
 (Ty.dflt t36)).fst,
 List.getD x.snd.fst
 (Int.toNat a) (Ty.dflt t36),
 ())],
 ()) <
 μ (a, a_1, ())))) ∧
 (((List.getD x.snd.fst (Int.toNat a) (Ty.dflt t36)).snd.snd.fst !=
 (0 : Int)) =
 false →
 (Option.isSome
 (mget t3 t36
 (List.getD x.snd.fst (Int.toNat a) (Ty.dflt t36)).fst
 a_1) =
 true →
 (none, (8 : Int), ()) = newA x.fst x.snd.fst) ∧
 (Option.isSome
 (mget t3 t36
 (List.getD x.snd.fst (Int.toNat a) (Ty.dflt t36)).fst
 a_1) =
 false →
 ((mget t3 t36
 (List.getD x.snd.fst (Int.toNat a)
 (Ty.dflt t36)).fst
 a_1 =
 none ∧
 ((IntKind.wrap IntKind.i64 (a + (1 : Int)) =
 IntKind.wrap IntKind.i64 (a + (1 : Int)) ∧
 x.fst = x.fst ∧
 True ∧
 x.snd.fst = x.snd.fst ∧
 (↑(List.length x.snd.fst) : Int) =
 (↑(List.length x.snd.fst) : Int)) ∧
 ((a_1 ++
 [((List.getD x.snd.fst (Int.toNat a)
 (Ty.dflt t36)).fst,
 List.getD x.snd.fst (Int.toNat a)
 (Ty.dflt t36),
 ())] =
 a_1 ++
 [((List.getD x.snd.fst (Int.toNat a)
 (Ty.dflt t36)).fst,
 List.getD x.snd.fst (Int.toNat a)
 (Ty.dflt t36),
 ())] ∧
 True) ∧
 x.fst = x.fst ∧ True ∧ True) ∧
 x.snd.fst = x.snd.fst ∧ True) ∧
 Z
 (IntKind.wrap IntKind.i64 (a + (1 : Int)),
 a_1 ++
 [((List.getD x.snd.fst (Int.toNat a)
 (Ty.dflt t36)).fst,
 List.getD x.snd.fst (Int.toNat a)
 (Ty.dflt t36),
 ())],
 ()) ∧
 μ
 (IntKind.wrap IntKind.i64 (a + (1 : Int)),
 a_1 ++
 [((List.getD x.snd.fst (Int.toNat a)
 (Ty.dflt t36)).fst,
 List.getD x.snd.fst (Int.toNat a)
 (Ty.dflt t36),
 ())],
 ()) <
 μ (a, a_1, ())) ∧
 mget t3 t36
 (List.getD x.snd.fst (Int.toNat a)
 (Ty.dflt t36)).fst
 a_1 =
 none ∧
 ((IntKind.wrap IntKind.i64 (a + (1 : Int)) =
 IntKind.wrap IntKind.i64 (a + (1 : Int)) ∧
 x.fst = x.fst ∧
 True ∧
 x.snd.fst = x.snd.fst ∧
 (↑(List.length x.snd.fst) : Int) =
 (↑(List.length x.snd.fst) : Int)) ∧
 ((a_1 ++
 [((List.getD x.snd.fst (Int.toNat a)
 (Ty.dflt t36)).fst,
 List.getD x.snd.fst (Int.toNat a)
 (Ty.dflt t36),
 ())] =
 a_1 ++
 [((List.getD x.snd.fst (Int.toNat a)
 (Ty.dflt t36)).fst,
 List.getD x.snd.fst (Int.toNat a)
 (Ty.dflt t36),
 ())] ∧
 True) ∧
 x.fst = x.fst ∧ True ∧ True) ∧
 x.snd.fst = x.snd.fst ∧ True) ∧
 Z
 (IntKind.wrap IntKind.i64 (a + (1 : Int)),
 a_1 ++
 [((List.getD x.snd.fst (Int.toNat a)
 (Ty.dflt t36)).fst,
 List.getD x.snd.fst (Int.toNat a)
 (Ty.dflt t36),
 ())],
 ()) ∧
 μ
 (IntKind.wrap IntKind.i64 (a + (1 : Int)),
 a_1 ++
 [((List.getD x.snd.fst (Int.toNat a)
 (Ty.dflt t36)).fst,
 List.getD x.snd.fst (Int.toNat a)
 (Ty.dflt t36),
 ())],
 ()) <
 μ (a, a_1, ())) ∧
 ((mget t3 t36
 (List.getD x.snd.fst (Int.toNat a)
 (Ty.dflt t36)).fst
 a_1 =
 none ∧
 ((IntKind.wrap IntKind.i64 (a + (1 : Int)) =
 IntKind.wrap IntKind.i64 (a + (1 : Int)) ∧
 x.fst = x.fst ∧
 True ∧
 x.snd.fst = x.snd.fst ∧
 (↑(List.length x.snd.fst) : Int) =
 (↑(List.length x.snd.fst) : Int)) ∧
 ((a_1 ++
 [((List.getD x.snd.fst (Int.toNat a)
 (Ty.dflt t36)).fst,
 List.getD x.snd.fst (Int.toNat a)
 (Ty.dflt t36),
 ())] =
 a_1 ++
 [((List.getD x.snd.fst (Int.toNat a)
 (Ty.dflt t36)).fst,
 List.getD x.snd.fst (Int.toNat a)
 (Ty.dflt t36),
 ())] ∧
 True) ∧
 x.fst = x.fst ∧ True ∧ True) ∧
 x.snd.fst = x.snd.fst ∧ True) ∧
 Z
 (IntKind.wrap IntKind.i64 (a + (1 : Int)),
 a_1 ++
 [((List.getD x.snd.fst (Int.toNat a)
 (Ty.dflt t36)).fst,
 List.getD x.snd.fst (Int.toNat a)
 (Ty.dflt t36),
 ())],
 ()) ∧
 μ
 (IntKind.wrap IntKind.i64 (a + (1 : Int)),
 a_1 ++
 [((List.getD x.snd.fst (Int.toNat a)
 (Ty.dflt t36)).fst,
 List.getD x.snd.fst (Int.toNat a)
 (Ty.dflt t36),
 ())],
 ()) <
 μ (a, a_1, ())) ∧
 mget t3 t36
 (List.getD x.snd.fst (Int.toNat a)
 (Ty.dflt t36)).fst
 a_1 =
 none ∧
 ((IntKind.wrap IntKind.i64 (a + (1 : Int)) =
 IntKind.wrap IntKind.i64 (a + (1 : Int)) ∧
 x.fst = x.fst ∧
 True ∧
 x.snd.fst = x.snd.fst ∧
 (↑(List.length x.snd.fst) : Int) =
 (↑(List.length x.snd.fst) : Int)) ∧
 ((a_1 ++
 [((List.getD x.snd.fst (Int.toNat a)
 (Ty.dflt t36)).fst,
 List.getD x.snd.fst (Int.toNat a)
 (Ty.dflt t36),
 ())] =
 a_1 ++
 [((List.getD x.snd.fst (Int.toNat a)
 (Ty.dflt t36)).fst,
 List.getD x.snd.fst (Int.toNat a)
 (Ty.dflt t36),
 ())] ∧
 True) ∧
 x.fst = x.fst ∧ True ∧ True) ∧
 x.snd.fst = x.snd.fst ∧ True) ∧
 Z
 (IntKind.wrap IntKind.i64 (a + (1 : Int)),
 a_1 ++
 [((List.getD x.snd.fst (Int.toNat a)
 (Ty.dflt t36)).fst,
 List.getD x.snd.fst (Int.toNat a)
 (Ty.dflt t36),
 ())],
 ()) ∧
 μ
 (IntKind.wrap IntKind.i64 (a + (1 : Int)),
 a_1 ++
 [((List.getD x.snd.fst (Int.toNat a)
 (Ty.dflt t36)).fst,
 List.getD x.snd.fst (Int.toNat a)
 (Ty.dflt t36),
 ())],
 ()) <
 μ (a, a_1, ())) ∧
 (mget t3 t36
 (List.getD x.snd.fst (Int.toNat a)
 (Ty.dflt t36)).fst
 a_1 =
 none ∧
 ((IntKind.wrap IntKind.i64 (a + (1 : Int)) =
 IntKind.wrap IntKind.i64 (a + (1 : Int)) ∧
 x.fst = x.fst ∧
 True ∧
 x.snd.fst = x.snd.fst ∧
 (↑(List.length x.snd.fst) : Int) =
 (↑(List.length x.snd.fst) : Int)) ∧
 ((a_1 ++
 [((List.getD x.snd.fst (Int.toNat a)
 (Ty.dflt t36)).fst,
 List.getD x.snd.fst (Int.toNat a)
 (Ty.dflt t36),
 ())] =
 a_1 ++
 [((List.getD x.snd.fst (Int.toNat a)
 (Ty.dflt t36)).fst,
 List.getD x.snd.fst (Int.toNat a)
 (Ty.dflt t36),
 ())] ∧
 True) ∧
 x.fst = x.fst ∧ True ∧ True) ∧
 x.snd.fst = x.snd.fst ∧ True) ∧
 Z
 (IntKind.wrap IntKind.i64 (a + (1 : Int)),
 a_1 ++
 [((List.getD x.snd.fst (Int.toNat a)
 (Ty.dflt t36)).fst,
 List.getD x.snd.fst (Int.toNat a)
 (Ty.dflt t36),
 ())],
 ()) ∧
 μ
 (IntKind.wrap IntKind.i64 (a + (1 : Int)),
 a_1 ++
 [((List.getD x.snd.fst (Int.toNat a)
 (Ty.dflt t36)).fst,
 List.getD x.snd.fst (Int.toNat a)
 (Ty.dflt t36),
 ())],
 ()) <
 μ (a, a_1, ())) ∧
 mget t3 t36
 (List.getD x.snd.fst (Int.toNat a)
 (Ty.dflt t36)).fst
 a_1 =
 none ∧
 ((IntKind.wrap IntKind.i64 (a + (1 : Int)) =
 IntKind.wrap IntKind.i64 (a + (1 : Int)) ∧
 x.fst = x.fst ∧
 True ∧
 x.snd.fst = x.snd.fst ∧
 (↑(List.length x.snd.fst) : Int) =
 (↑(List.length x.snd.fst) : Int)) ∧
 ((a_1 ++
 [((List.getD x.snd.fst (Int.toNat a)
 (Ty.dflt t36)).fst,
 List.getD x.snd.fst (Int.toNat a)
 (Ty.dflt t36),
 ())] =
 a_1 ++
 [((List.getD x.snd.fst (Int.toNat a)
 (Ty.dflt t36)).fst,
 List.getD x.snd.fst (Int.toNat a)
 (Ty.dflt t36),
 ())] ∧
 True) ∧
 x.fst = x.fst ∧ True ∧ True) ∧
 x.snd.fst = x.snd.fst ∧ True) ∧
 Z
 (IntKind.wrap IntKind.i64 (a + (1 : Int)),
 a_1 ++
 [((List.getD x.snd.fst (Int.toNat a)
 (Ty.dflt t36)).fst,
 List.getD x.snd.fst (Int.toNat a)
 (Ty.dflt t36),
 ())],
 ()) ∧
 μ
 (IntKind.wrap IntKind.i64 (a + (1 : Int)),
 a_1 ++
 [((List.getD x.snd.fst (Int.toNat a)
 (Ty.dflt t36)).fst,
 List.getD x.snd.fst (Int.toNat a)
 (Ty.dflt t36),
 ())],
 ()) <
 μ (a, a_1, ())))))) ∧
 (decide
 ((List.getD x.snd.fst (Int.toNat a) (Ty.dflt t36)).snd.fst <
 (0 : Int)) =
 true →
 (none, (1 : Int), ()) = newA x.fst x.snd.fst) ∧
 (decide
 ((List.getD x.snd.fst (Int.toNat a) (Ty.dflt t36)).snd.fst <
 (0 : Int)) =
 false →
 (decide
 ((List.getD x.snd.fst (Int.toNat a) (Ty.dflt t36)).snd.fst >
 x.fst) =
 true →
 (none, (1 : Int), ()) = newA x.fst x.snd.fst) ∧
 (decide
 ((List.getD x.snd.fst (Int.toNat a) (Ty.dflt t36)).snd.fst >
 x.fst) =
 false →
 (((List.getD x.snd.fst (Int.toNat a) (Ty.dflt t36)).snd.snd.fst !=
 (0 : Int)) =
 true →
 (((List.getD x.snd.fst (Int.toNat a) (Ty.dflt t36)).snd.snd.fst !=
 (1 : Int)) =
 true →
 (none, (1 : Int), ()) = newA x.fst x.snd.fst) ∧
 (((List.getD x.snd.fst (Int.toNat a)
 (Ty.dflt t36)).snd.snd.fst !=
 (1 : Int)) =
 false →
 (Option.isSome
 (mget t3 t36
 (List.getD x.snd.fst (Int.toNat a)
 (Ty.dflt t36)).fst
 a_1) =
 true →
 (none, (8 : Int), ()) = newA x.fst x.snd.fst) ∧
 (Option.isSome
 (mget t3 t36
 (List.getD x.snd.fst (Int.toNat a)
 (Ty.dflt t36)).fst
 a_1) =
 false →
 ((mget t3 t36
 (List.getD x.snd.fst (Int.toNat a)
 (Ty.dflt t36)).fst
 a_1 =
 none ∧
 ((IntKind.wrap IntKind.i64 (a + (1 : Int)) =
 IntKind.wrap IntKind.i64 (a + (1 : Int)) ∧
 x.fst = x.fst ∧
 True ∧
 x.snd.fst = x.snd.fst ∧
 (↑(List.length x.snd.fst) : Int) =
 (↑(List.length x.snd.fst) : Int)) ∧
 ((a_1 ++
 [((List.getD x.snd.fst (Int.toNat a)
 (Ty.dflt t36)).fst,
 List.getD x.snd.fst (Int.toNat a)
 (Ty.dflt t36),
 ())] =
 a_1 ++
 [((List.getD x.snd.fst (Int.toNat a)
 (Ty.dflt t36)).fst,
 List.getD x.snd.fst (Int.toNat a)
 (Ty.dflt t36),
 ())] ∧
 True) ∧
 x.fst = x.fst ∧ True ∧ True) ∧
 x.snd.fst = x.snd.fst ∧ True) ∧
 Z
 (IntKind.wrap IntKind.i64 (a + (1 : Int)),
 a_1 ++
 [((List.getD x.snd.fst (Int.toNat a)
 (Ty.dflt t36)).fst,
 List.getD x.snd.fst (Int.toNat a)
 (Ty.dflt t36),
 ())],
 ()) ∧
 μ
 (IntKind.wrap IntKind.i64 (a + (1 : Int)),
 a_1 ++
 [((List.getD x.snd.fst (Int.toNat a)
 (Ty.dflt t36)).fst,
 List.getD x.snd.fst (Int.toNat a)
 (Ty.dflt t36),
 ())],
 ()) <
 μ (a, a_1, ())) ∧
 mget t3 t36
 (List.getD x.snd.fst (Int.toNat a)
 (Ty.dflt t36)).fst
 a_1 =
 none ∧
 ((IntKind.wrap IntKind.i64 (a + (1 : Int)) =
 IntKind.wrap IntKind.i64 (a + (1 : Int)) ∧
 x.fst = x.fst ∧
 True ∧
 x.snd.fst = x.snd.fst ∧
 (↑(List.length x.snd.fst) : Int) =
 (↑(List.length x.snd.fst) : Int)) ∧
 ((a_1 ++
 [((List.getD x.snd.fst (Int.toNat a)
 (Ty.dflt t36)).fst,
 List.getD x.snd.fst (Int.toNat a)
 (Ty.dflt t36),
 ())] =
 a_1 ++
 [((List.getD x.snd.fst (Int.toNat a)
 (Ty.dflt t36)).fst,
 List.getD x.snd.fst (Int.toNat a)
 (Ty.dflt t36),
 ())] ∧
 True) ∧
 x.fst = x.fst ∧ True ∧ True) ∧
 x.snd.fst = x.snd.fst ∧ True) ∧
 Z
 (IntKind.wrap IntKind.i64 (a + (1 : Int)),
 a_1 ++
 [((List.getD x.snd.fst (Int.toNat a)
 (Ty.dflt t36)).fst,
 List.getD x.snd.fst (Int.toNat a)
 (Ty.dflt t36),
 ())],
 ()) ∧
 μ
 (IntKind.wrap IntKind.i64 (a + (1 : Int)),
 a_1 ++
 [((List.getD x.snd.fst (Int.toNat a)
 (Ty.dflt t36)).fst,
 List.getD x.snd.fst (Int.toNat a)
 (Ty.dflt t36),
 ())],
 ()) <
 μ (a, a_1, ())) ∧
 ((mget t3 t36
 (List.getD x.snd.fst (Int.toNat a)
 (Ty.dflt t36)).fst
 a_1 =
 none ∧
 ((IntKind.wrap IntKind.i64 (a + (1 : Int)) =
 IntKind.wrap IntKind.i64 (a + (1 : Int)) ∧
 x.fst = x.fst ∧
 True ∧
 x.snd.fst = x.snd.fst ∧
 (↑(List.length x.snd.fst) : Int) =
 (↑(List.length x.snd.fst) : Int)) ∧
 ((a_1 ++
 [((List.getD x.snd.fst (Int.toNat a)
 (Ty.dflt t36)).fst,
 List.getD x.snd.fst
 (Int.toNat a) (Ty.dflt t36),
 ())] =
 a_1 ++
 [((List.getD x.snd.fst (Int.toNat a)
 (Ty.dflt t36)).fst,
 List.getD x.snd.fst
 (Int.toNat a) (Ty.dflt t36),
 ())] ∧
 True) ∧
 x.fst = x.fst ∧ True ∧ True) ∧
 x.snd.fst = x.snd.fst ∧ True) ∧
 Z
 (IntKind.wrap IntKind.i64 (a + (1 : Int)),
 a_1 ++
 [((List.getD x.snd.fst (Int.toNat a)
 (Ty.dflt t36)).fst,
 List.getD x.snd.fst (Int.toNat a)
 (Ty.dflt t36),
 ())],
 ()) ∧
 μ
 (IntKind.wrap IntKind.i64 (a + (1 : Int)),
 a_1 ++
 [((List.getD x.snd.fst (Int.toNat a)
 (Ty.dflt t36)).fst,
 List.getD x.snd.fst (Int.toNat a)
 (Ty.dflt t36),
 ())],
 ()) <
 μ (a, a_1, ())) ∧
 mget t3 t36
 (List.getD x.snd.fst (Int.toNat a)
 (Ty.dflt t36)).fst
 a_1 =
 none ∧
 ((IntKind.wrap IntKind.i64 (a + (1 : Int)) =
 IntKind.wrap IntKind.i64 (a + (1 : Int)) ∧
 x.fst = x.fst ∧
 True ∧
 x.snd.fst = x.snd.fst ∧
 (↑(List.length x.snd.fst) : Int) =
 (↑(List.length x.snd.fst) : Int)) ∧
 ((a_1 ++
 [((List.getD x.snd.fst (Int.toNat a)
 (Ty.dflt t36)).fst,
 List.getD x.snd.fst
 (Int.toNat a) (Ty.dflt t36),
 ())] =
 a_1 ++
 [((List.getD x.snd.fst (Int.toNat a)
 (Ty.dflt t36)).fst,
 List.getD x.snd.fst
 (Int.toNat a) (Ty.dflt t36),
 ())] ∧
 True) ∧
 x.fst = x.fst ∧ True ∧ True) ∧
 x.snd.fst = x.snd.fst ∧ True) ∧
 Z
 (IntKind.wrap IntKind.i64 (a + (1 : Int)),
 a_1 ++
 [((List.getD x.snd.fst (Int.toNat a)
 (Ty.dflt t36)).fst,
 List.getD x.snd.fst (Int.toNat a)
 (Ty.dflt t36),
 ())],
 ()) ∧
 μ
 (IntKind.wrap IntKind.i64 (a + (1 : Int)),
 a_1 ++
 [((List.getD x.snd.fst (Int.toNat a)
 (Ty.dflt t36)).fst,
 List.getD x.snd.fst (Int.toNat a)
 (Ty.dflt t36),
 ())],
 ()) <
 μ (a, a_1, ())) ∧
 (mget t3 t36
 (List.getD x.snd.fst (Int.toNat a)
 (Ty.dflt t36)).fst
 a_1 =
 none ∧
 ((IntKind.wrap IntKind.i64 (a + (1 : Int)) =
 IntKind.wrap IntKind.i64 (a + (1 : Int)) ∧
 x.fst = x.fst ∧
 True ∧
 x.snd.fst = x.snd.fst ∧
 (↑(List.length x.snd.fst) : Int) =
 (↑(List.length x.snd.fst) : Int)) ∧
 ((a_1 ++
 [((List.getD x.snd.fst (Int.toNat a)
 (Ty.dflt t36)).fst,
 List.getD x.snd.fst
 (Int.toNat a) (Ty.dflt t36),
 ())] =
 a_1 ++
 [((List.getD x.snd.fst (Int.toNat a)
 (Ty.dflt t36)).fst,
 List.getD x.snd.fst
 (Int.toNat a) (Ty.dflt t36),
 ())] ∧
 True) ∧
 x.fst = x.fst ∧ True ∧ True) ∧
 x.snd.fst = x.snd.fst ∧ True) ∧
 Z
 (IntKind.wrap IntKind.i64 (a + (1 : Int)),
 a_1 ++
 [((List.getD x.snd.fst (Int.toNat a)
 (Ty.dflt t36)).fst,
 List.getD x.snd.fst (Int.toNat a)
 (Ty.dflt t36),
 ())],
 ()) ∧
 μ
 (IntKind.wrap IntKind.i64 (a + (1 : Int)),
 a_1 ++
 [((List.getD x.snd.fst (Int.toNat a)
 (Ty.dflt t36)).fst,
 List.getD x.snd.fst (Int.toNat a)
 (Ty.dflt t36),
 ())],
 ()) <
 μ (a, a_1, ())) ∧
 mget t3 t36
 (List.getD x.snd.fst (Int.toNat a)
 (Ty.dflt t36)).fst
 a_1 =
 none ∧
 ((IntKind.wrap IntKind.i64 (a + (1 : Int)) =
 IntKind.wrap IntKind.i64 (a + (1 : Int)) ∧
 x.fst = x.fst ∧
 True ∧
 x.snd.fst = x.snd.fst ∧
 (↑(List.length x.snd.fst) : Int) =
 (↑(List.length x.snd.fst) : Int)) ∧
 ((a_1 ++
 [((List.getD x.snd.fst (Int.toNat a)
 (Ty.dflt t36)).fst,
 List.getD x.snd.fst
 (Int.toNat a) (Ty.dflt t36),
 ())] =
 a_1 ++
 [((List.getD x.snd.fst (Int.toNat a)
 (Ty.dflt t36)).fst,
 List.getD x.snd.fst
 (Int.toNat a) (Ty.dflt t36),
 ())] ∧
 True) ∧
 x.fst = x.fst ∧ True ∧ True) ∧
 x.snd.fst = x.snd.fst ∧ True) ∧
 Z
 (IntKind.wrap IntKind.i64 (a + (1 : Int)),
 a_1 ++
 [((List.getD x.snd.fst (Int.toNat a)
 (Ty.dflt t36)).fst,
 List.getD x.snd.fst (Int.toNat a)
 (Ty.dflt t36),
 ())],
 ()) ∧
 μ
 (IntKind.wrap IntKind.i64 (a + (1 : Int)),
 a_1 ++
 [((List.getD x.snd.fst (Int.toNat a)
 (Ty.dflt t36)).fst,
 List.getD x.snd.fst (Int.toNat a)
 (Ty.dflt t36),
 ())],
 ()) <
 μ (a, a_1, ())))) ∧
 (((List.getD x.snd.fst (Int.toNat a) (Ty.dflt t36)).snd.snd.fst !=
 (0 : Int)) =
 false →
 (Option.isSome
 (mget t3 t36
 (List.getD x.snd.fst (Int.toNat a) (Ty.dflt t36)).fst
 a_1) =
 true →
 (none, (8 : Int), ()) = newA x.fst x.snd.fst) ∧
 (Option.isSome
 (mget t3 t36
 (List.getD x.snd.fst (Int.toNat a) (Ty.dflt t36)).fst
 a_1) =
 false →
 ((mget t3 t36
 (List.getD x.snd.fst (Int.toNat a)
 (Ty.dflt t36)).fst
 a_1 =
 none ∧
 ((IntKind.wrap IntKind.i64 (a + (1 : Int)) =
 IntKind.wrap IntKind.i64 (a + (1 : Int)) ∧
 x.fst = x.fst ∧
 True ∧
 x.snd.fst = x.snd.fst ∧
 (↑(List.length x.snd.fst) : Int) =
 (↑(List.length x.snd.fst) : Int)) ∧
 ((a_1 ++
 [((List.getD x.snd.fst (Int.toNat a)
 (Ty.dflt t36)).fst,
 List.getD x.snd.fst (Int.toNat a)
 (Ty.dflt t36),
 ())] =
 a_1 ++
 [((List.getD x.snd.fst (Int.toNat a)
 (Ty.dflt t36)).fst,
 List.getD x.snd.fst (Int.toNat a)
 (Ty.dflt t36),
 ())] ∧
 True) ∧
 x.fst = x.fst ∧ True ∧ True) ∧
 x.snd.fst = x.snd.fst ∧ True) ∧
 Z
 (IntKind.wrap IntKind.i64 (a + (1 : Int)),
 a_1 ++
 [((List.getD x.snd.fst (Int.toNat a)
 (Ty.dflt t36)).fst,
 List.getD x.snd.fst (Int.toNat a)
 (Ty.dflt t36),
 ())],
 ()) ∧
 μ
 (IntKind.wrap IntKind.i64 (a + (1 : Int)),
 a_1 ++
 [((List.getD x.snd.fst (Int.toNat a)
 (Ty.dflt t36)).fst,
 List.getD x.snd.fst (Int.toNat a)
 (Ty.dflt t36),
 ())],
 ()) <
 μ (a, a_1, ())) ∧
 mget t3 t36
 (List.getD x.snd.fst (Int.toNat a)
 (Ty.dflt t36)).fst
 a_1 =
 none ∧
 ((IntKind.wrap IntKind.i64 (a + (1 : Int)) =
 IntKind.wrap IntKind.i64 (a + (1 : Int)) ∧
 x.fst = x.fst ∧
 True ∧
 x.snd.fst = x.snd.fst ∧
 (↑(List.length x.snd.fst) : Int) =
 (↑(List.length x.snd.fst) : Int)) ∧
 ((a_1 ++
 [((List.getD x.snd.fst (Int.toNat a)
 (Ty.dflt t36)).fst,
 List.getD x.snd.fst (Int.toNat a)
 (Ty.dflt t36),
 ())] =
 a_1 ++
 [((List.getD x.snd.fst (Int.toNat a)
 (Ty.dflt t36)).fst,
 List.getD x.snd.fst (Int.toNat a)
 (Ty.dflt t36),
 ())] ∧
 True) ∧
 x.fst = x.fst ∧ True ∧ True) ∧
 x.snd.fst = x.snd.fst ∧ True) ∧
 Z
 (IntKind.wrap IntKind.i64 (a + (1 : Int)),
 a_1 ++
 [((List.getD x.snd.fst (Int.toNat a)
 (Ty.dflt t36)).fst,
 List.getD x.snd.fst (Int.toNat a)
 (Ty.dflt t36),
 ())],
 ()) ∧
 μ
 (IntKind.wrap IntKind.i64 (a + (1 : Int)),
 a_1 ++
 [((List.getD x.snd.fst (Int.toNat a)
 (Ty.dflt t36)).fst,
 List.getD x.snd.fst (Int.toNat a)
 (Ty.dflt t36),
 ())],
 ()) <
 μ (a, a_1, ())) ∧
 ((mget t3 t36
 (List.getD x.snd.fst (Int.toNat a)
 (Ty.dflt t36)).fst
 a_1 =
 none ∧
 ((IntKind.wrap IntKind.i64 (a + (1 : Int)) =
 IntKind.wrap IntKind.i64 (a + (1 : Int)) ∧
 x.fst = x.fst ∧
 True ∧
 x.snd.fst = x.snd.fst ∧
 (↑(List.length x.snd.fst) : Int) =
 (↑(List.length x.snd.fst) : Int)) ∧
 ((a_1 ++
 [((List.getD x.snd.fst (Int.toNat a)
 (Ty.dflt t36)).fst,
 List.getD x.snd.fst (Int.toNat a)
 (Ty.dflt t36),
 ())] =
 a_1 ++
 [((List.getD x.snd.fst (Int.toNat a)
 (Ty.dflt t36)).fst,
 List.getD x.snd.fst (Int.toNat a)
 (Ty.dflt t36),
 ())] ∧
 True) ∧
 x.fst = x.fst ∧ True ∧ True) ∧
 x.snd.fst = x.snd.fst ∧ True) ∧
 Z
 (IntKind.wrap IntKind.i64 (a + (1 : Int)),
 a_1 ++
 [((List.getD x.snd.fst (Int.toNat a)
 (Ty.dflt t36)).fst,
 List.getD x.snd.fst (Int.toNat a)
 (Ty.dflt t36),
 ())],
 ()) ∧
 μ
 (IntKind.wrap IntKind.i64 (a + (1 : Int)),
 a_1 ++
 [((List.getD x.snd.fst (Int.toNat a)
 (Ty.dflt t36)).fst,
 List.getD x.snd.fst (Int.toNat a)
 (Ty.dflt t36),
 ())],
 ()) <
 μ (a, a_1, ())) ∧
 mget t3 t36
 (List.getD x.snd.fst (Int.toNat a)
 (Ty.dflt t36)).fst
 a_1 =
 none ∧
 ((IntKind.wrap IntKind.i64 (a + (1 : Int)) =
 IntKind.wrap IntKind.i64 (a + (1 : Int)) ∧
 x.fst = x.fst ∧
 True ∧
 x.snd.fst = x.snd.fst ∧
 (↑(List.length x.snd.fst) : Int) =
 (↑(List.length x.snd.fst) : Int)) ∧
 ((a_1 ++
 [((List.getD x.snd.fst (Int.toNat a)
 (Ty.dflt t36)).fst,
 List.getD x.snd.fst (Int.toNat a)
 (Ty.dflt t36),
 ())] =
 a_1 ++
 [((List.getD x.snd.fst (Int.toNat a)
 (Ty.dflt t36)).fst,
 List.getD x.snd.fst (Int.toNat a)
 (Ty.dflt t36),
 ())] ∧
 True) ∧
 x.fst = x.fst ∧ True ∧ True) ∧
 x.snd.fst = x.snd.fst ∧ True) ∧
 Z
 (IntKind.wrap IntKind.i64 (a + (1 : Int)),
 a_1 ++
 [((List.getD x.snd.fst (Int.toNat a)
 (Ty.dflt t36)).fst,
 List.getD x.snd.fst (Int.toNat a)
 (Ty.dflt t36),
 ())],
 ()) ∧
 μ
 (IntKind.wrap IntKind.i64 (a + (1 : Int)),
 a_1 ++
 [((List.getD x.snd.fst (Int.toNat a)
 (Ty.dflt t36)).fst,
 List.getD x.snd.fst (Int.toNat a)
 (Ty.dflt t36),
 ())],
 ()) <
 μ (a, a_1, ())) ∧
 (mget t3 t36
 (List.getD x.snd.fst (Int.toNat a)
 (Ty.dflt t36)).fst
 a_1 =
 none ∧
 ((IntKind.wrap IntKind.i64 (a + (1 : Int)) =
 IntKind.wrap IntKind.i64 (a + (1 : Int)) ∧
 x.fst = x.fst ∧
 True ∧
 x.snd.fst = x.snd.fst ∧
 (↑(List.length x.snd.fst) : Int) =
 (↑(List.length x.snd.fst) : Int)) ∧
 ((a_1 ++
 [((List.getD x.snd.fst (Int.toNat a)
 (Ty.dflt t36)).fst,
 List.getD x.snd.fst (Int.toNat a)
 (Ty.dflt t36),
 ())] =
 a_1 ++
 [((List.getD x.snd.fst (Int.toNat a)
 (Ty.dflt t36)).fst,
 List.getD x.snd.fst (Int.toNat a)
 (Ty.dflt t36),
 ())] ∧
 True) ∧
 x.fst = x.fst ∧ True ∧ True) ∧
 x.snd.fst = x.snd.fst ∧ True) ∧
 Z
 (IntKind.wrap IntKind.i64 (a + (1 : Int)),
 a_1 ++
 [((List.getD x.snd.fst (Int.toNat a)
 (Ty.dflt t36)).fst,
 List.getD x.snd.fst (Int.toNat a)
 (Ty.dflt t36),
 ())],
 ()) ∧
 μ
 (IntKind.wrap IntKind.i64 (a + (1 : Int)),
 a_1 ++
 [((List.getD x.snd.fst (Int.toNat a)
 (Ty.dflt t36)).fst,
 List.getD x.snd.fst (Int.toNat a)
 (Ty.dflt t36),
 ())],
 ()) <
 μ (a, a_1, ())) ∧
 mget t3 t36
 (List.getD x.snd.fst (Int.toNat a)
 (Ty.dflt t36)).fst
 a_1 =
 none ∧
 ((IntKind.wrap IntKind.i64 (a + (1 : Int)) =
 IntKind.wrap IntKind.i64 (a + (1 : Int)) ∧
 x.fst = x.fst ∧
 True ∧
 x.snd.fst = x.snd.fst ∧
 (↑(List.length x.snd.fst) : Int) =
 (↑(List.length x.snd.fst) : Int)) ∧
 ((a_1 ++
 [((List.getD x.snd.fst (Int.toNat a)
 (Ty.dflt t36)).fst,
 List.getD x.snd.fst (Int.toNat a)
 (Ty.dflt t36),
 ())] =
 a_1 ++
 [((List.getD x.snd.fst (Int.toNat a)
 (Ty.dflt t36)).fst,
 List.getD x.snd.fst (Int.toNat a)
 (Ty.dflt t36),
 ())] ∧
 True) ∧
 x.fst = x.fst ∧ True ∧ True) ∧
 x.snd.fst = x.snd.fst ∧ True) ∧
 Z
 (IntKind.wrap IntKind.i64 (a + (1 : Int)),
 a_1 ++
 [((List.getD x.snd.fst (Int.toNat a)
 (Ty.dflt t36)).fst,
 List.getD x.snd.fst (Int.toNat a)
 (Ty.dflt t36),
 ())],
 ()) ∧
 μ
 (IntKind.wrap IntKind.i64 (a + (1 : Int)),
 a_1 ++
 [((List.getD x.snd.fst (Int.toNat a)
 (Ty.dflt t36)).fst,
 List.getD x.snd.fst (Int.toNat a)
 (Ty.dflt t36),
 ())],
 ()) <
 μ (a, a_1, ())))))) ∧
 ((decide
 ((List.getD x.snd.fst (Int.toNat a) (Ty.dflt t36)).snd.fst <
 (0 : Int)) =
 true →
 (none, (1 : Int), ()) = newA x.fst x.snd.fst) ∧
 (decide
 ((List.getD x.snd.fst (Int.toNat a) (Ty.dflt t36)).snd.fst <
 (0 : Int)) =
 false →
 (decide
 ((List.getD x.snd.fst (Int.toNat a) (Ty.dflt t36)).snd.fst >
 x.fst) =
 true →
 (none, (1 : Int), ()) = newA x.fst x.snd.fst) ∧
 (decide
 ((List.getD x.snd.fst (Int.toNat a) (Ty.dflt t36)).snd.fst >
 x.fst) =
 false →
 (((List.getD x.snd.fst (Int.toNat a) (Ty.dflt t36)).snd.snd.fst !=
 (0 : Int)) =
 true →
 (((List.getD x.snd.fst (Int.toNat a) (Ty.dflt t36)).snd.snd.fst !=
 (1 : Int)) =
 true →
 (none, (1 : Int), ()) = newA x.fst x.snd.fst) ∧
 (((List.getD x.snd.fst (Int.toNat a)
 (Ty.dflt t36)).snd.snd.fst !=
 (1 : Int)) =
 false →
 (Option.isSome
 (mget t3 t36
 (List.getD x.snd.fst (Int.toNat a)
 (Ty.dflt t36)).fst
 a_1) =
 true →
 (none, (8 : Int), ()) = newA x.fst x.snd.fst) ∧
 (Option.isSome
 (mget t3 t36
 (List.getD x.snd.fst (Int.toNat a)
 (Ty.dflt t36)).fst
 a_1) =
 false →
 ((mget t3 t36
 (List.getD x.snd.fst (Int.toNat a)
 (Ty.dflt t36)).fst
 a_1 =
 none ∧
 ((IntKind.wrap IntKind.i64 (a + (1 : Int)) =
 IntKind.wrap IntKind.i64 (a + (1 : Int)) ∧
 x.fst = x.fst ∧
 True ∧
 x.snd.fst = x.snd.fst ∧
 (↑(List.length x.snd.fst) : Int) =
 (↑(List.length x.snd.fst) : Int)) ∧
 ((a_1 ++
 [((List.getD x.snd.fst (Int.toNat a)
 (Ty.dflt t36)).fst,
 List.getD x.snd.fst (Int.toNat a)
 (Ty.dflt t36),
 ())] =
 a_1 ++
 [((List.getD x.snd.fst (Int.toNat a)
 (Ty.dflt t36)).fst,
 List.getD x.snd.fst (Int.toNat a)
 (Ty.dflt t36),
 ())] ∧
 True) ∧
 x.fst = x.fst ∧ True ∧ True) ∧
 x.snd.fst = x.snd.fst ∧ True) ∧
 Z
 (IntKind.wrap IntKind.i64 (a + (1 : Int)),
 a_1 ++
 [((List.getD x.snd.fst (Int.toNat a)
 (Ty.dflt t36)).fst,
 List.getD x.snd.fst (Int.toNat a)
 (Ty.dflt t36),
 ())],
 ()) ∧
 μ
 (IntKind.wrap IntKind.i64 (a + (1 : Int)),
 a_1 ++
 [((List.getD x.snd.fst (Int.toNat a)
 (Ty.dflt t36)).fst,
 List.getD x.snd.fst (Int.toNat a)
 (Ty.dflt t36),
 ())],
 ()) <
 μ (a, a_1, ())) ∧
 mget t3 t36
 (List.getD x.snd.fst (Int.toNat a)
 (Ty.dflt t36)).fst
 a_1 =
 none ∧
 ((IntKind.wrap IntKind.i64 (a + (1 : Int)) =
 IntKind.wrap IntKind.i64 (a + (1 : Int)) ∧
 x.fst = x.fst ∧
 True ∧
 x.snd.fst = x.snd.fst ∧
 (↑(List.length x.snd.fst) : Int) =
 (↑(List.length x.snd.fst) : Int)) ∧
 ((a_1 ++
 [((List.getD x.snd.fst (Int.toNat a)
 (Ty.dflt t36)).fst,
 List.getD x.snd.fst (Int.toNat a)
 (Ty.dflt t36),
 ())] =
 a_1 ++
 [((List.getD x.snd.fst (Int.toNat a)
 (Ty.dflt t36)).fst,
 List.getD x.snd.fst (Int.toNat a)
 (Ty.dflt t36),
 ())] ∧
 True) ∧
 x.fst = x.fst ∧ True ∧ True) ∧
 x.snd.fst = x.snd.fst ∧ True) ∧
 Z
 (IntKind.wrap IntKind.i64 (a + (1 : Int)),
 a_1 ++
 [((List.getD x.snd.fst (Int.toNat a)
 (Ty.dflt t36)).fst,
 List.getD x.snd.fst (Int.toNat a)
 (Ty.dflt t36),
 ())],
 ()) ∧
 μ
 (IntKind.wrap IntKind.i64 (a + (1 : Int)),
 a_1 ++
 [((List.getD x.snd.fst (Int.toNat a)
 (Ty.dflt t36)).fst,
 List.getD x.snd.fst (Int.toNat a)
 (Ty.dflt t36),
 ())],
 ()) <
 μ (a, a_1, ())) ∧
 ((mget t3 t36
 (List.getD x.snd.fst (Int.toNat a)
 (Ty.dflt t36)).fst
 a_1 =
 none ∧
 ((IntKind.wrap IntKind.i64 (a + (1 : Int)) =
 IntKind.wrap IntKind.i64 (a + (1 : Int)) ∧
 x.fst = x.fst ∧
 True ∧
 x.snd.fst = x.snd.fst ∧
 (↑(List.length x.snd.fst) : Int) =
 (↑(List.length x.snd.fst) : Int)) ∧
 ((a_1 ++
 [((List.getD x.snd.fst (Int.toNat a)
 (Ty.dflt t36)).fst,
 List.getD x.snd.fst
 (Int.toNat a) (Ty.dflt t36),
 ())] =
 a_1 ++
 [((List.getD x.snd.fst (Int.toNat a)
 (Ty.dflt t36)).fst,
 List.getD x.snd.fst
 (Int.toNat a) (Ty.dflt t36),
 ())] ∧
 True) ∧
 x.fst = x.fst ∧ True ∧ True) ∧
 x.snd.fst = x.snd.fst ∧ True) ∧
 Z
 (IntKind.wrap IntKind.i64 (a + (1 : Int)),
 a_1 ++
 [((List.getD x.snd.fst (Int.toNat a)
 (Ty.dflt t36)).fst,
 List.getD x.snd.fst (Int.toNat a)
 (Ty.dflt t36),
 ())],
 ()) ∧
 μ
 (IntKind.wrap IntKind.i64 (a + (1 : Int)),
 a_1 ++
 [((List.getD x.snd.fst (Int.toNat a)
 (Ty.dflt t36)).fst,
 List.getD x.snd.fst (Int.toNat a)
 (Ty.dflt t36),
 ())],
 ()) <
 μ (a, a_1, ())) ∧
 mget t3 t36
 (List.getD x.snd.fst (Int.toNat a)
 (Ty.dflt t36)).fst
 a_1 =
 none ∧
 ((IntKind.wrap IntKind.i64 (a + (1 : Int)) =
 IntKind.wrap IntKind.i64 (a + (1 : Int)) ∧
 x.fst = x.fst ∧
 True ∧
 x.snd.fst = x.snd.fst ∧
 (↑(List.length x.snd.fst) : Int) =
 (↑(List.length x.snd.fst) : Int)) ∧
 ((a_1 ++
 [((List.getD x.snd.fst (Int.toNat a)
 (Ty.dflt t36)).fst,
 List.getD x.snd.fst
 (Int.toNat a) (Ty.dflt t36),
 ())] =
 a_1 ++
 [((List.getD x.snd.fst (Int.toNat a)
 (Ty.dflt t36)).fst,
 List.getD x.snd.fst
 (Int.toNat a) (Ty.dflt t36),
 ())] ∧
 True) ∧
 x.fst = x.fst ∧ True ∧ True) ∧
 x.snd.fst = x.snd.fst ∧ True) ∧
 Z
 (IntKind.wrap IntKind.i64 (a + (1 : Int)),
 a_1 ++
 [((List.getD x.snd.fst (Int.toNat a)
 (Ty.dflt t36)).fst,
 List.getD x.snd.fst (Int.toNat a)
 (Ty.dflt t36),
 ())],
 ()) ∧
 μ
 (IntKind.wrap IntKind.i64 (a + (1 : Int)),
 a_1 ++
 [((List.getD x.snd.fst (Int.toNat a)
 (Ty.dflt t36)).fst,
 List.getD x.snd.fst (Int.toNat a)
 (Ty.dflt t36),
 ())],
 ()) <
 μ (a, a_1, ())) ∧
 (mget t3 t36
 (List.getD x.snd.fst (Int.toNat a)
 (Ty.dflt t36)).fst
 a_1 =
 none ∧
 ((IntKind.wrap IntKind.i64 (a + (1 : Int)) =
 IntKind.wrap IntKind.i64 (a + (1 : Int)) ∧
 x.fst = x.fst ∧
 True ∧
 x.snd.fst = x.snd.fst ∧
 (↑(List.length x.snd.fst) : Int) =
 (↑(List.length x.snd.fst) : Int)) ∧
 ((a_1 ++
 [((List.getD x.snd.fst (Int.toNat a)
 (Ty.dflt t36)).fst,
 List.getD x.snd.fst
 (Int.toNat a) (Ty.dflt t36),
 ())] =
 a_1 ++
 [((List.getD x.snd.fst (Int.toNat a)
 (Ty.dflt t36)).fst,
 List.getD x.snd.fst
 (Int.toNat a) (Ty.dflt t36),
 ())] ∧
 True) ∧
 x.fst = x.fst ∧ True ∧ True) ∧
 x.snd.fst = x.snd.fst ∧ True) ∧
 Z
 (IntKind.wrap IntKind.i64 (a + (1 : Int)),
 a_1 ++
 [((List.getD x.snd.fst (Int.toNat a)
 (Ty.dflt t36)).fst,
 List.getD x.snd.fst (Int.toNat a)
 (Ty.dflt t36),
 ())],
 ()) ∧
 μ
 (IntKind.wrap IntKind.i64 (a + (1 : Int)),
 a_1 ++
 [((List.getD x.snd.fst (Int.toNat a)
 (Ty.dflt t36)).fst,
 List.getD x.snd.fst (Int.toNat a)
 (Ty.dflt t36),
 ())],
 ()) <
 μ (a, a_1, ())) ∧
 mget t3 t36
 (List.getD x.snd.fst (Int.toNat a)
 (Ty.dflt t36)).fst
 a_1 =
 none ∧
 ((IntKind.wrap IntKind.i64 (a + (1 : Int)) =
 IntKind.wrap IntKind.i64 (a + (1 : Int)) ∧
 x.fst = x.fst ∧
 True ∧
 x.snd.fst = x.snd.fst ∧
 (↑(List.length x.snd.fst) : Int) =
 (↑(List.length x.snd.fst) : Int)) ∧
 ((a_1 ++
 [((List.getD x.snd.fst (Int.toNat a)
 (Ty.dflt t36)).fst,
 List.getD x.snd.fst
 (Int.toNat a) (Ty.dflt t36),
 ())] =
 a_1 ++
 [((List.getD x.snd.fst (Int.toNat a)
 (Ty.dflt t36)).fst,
 List.getD x.snd.fst
 (Int.toNat a) (Ty.dflt t36),
 ())] ∧
 True) ∧
 x.fst = x.fst ∧ True ∧ True) ∧
 x.snd.fst = x.snd.fst ∧ True) ∧
 Z
 (IntKind.wrap IntKind.i64 (a + (1 : Int)),
 a_1 ++
 [((List.getD x.snd.fst (Int.toNat a)
 (Ty.dflt t36)).fst,
 List.getD x.snd.fst (Int.toNat a)
 (Ty.dflt t36),
 ())],
 ()) ∧
 μ
 (IntKind.wrap IntKind.i64 (a + (1 : Int)),
 a_1 ++
 [((List.getD x.snd.fst (Int.toNat a)
 (Ty.dflt t36)).fst,
 List.getD x.snd.fst (Int.toNat a)
 (Ty.dflt t36),
 ())],
 ()) <
 μ (a, a_1, ())))) ∧
 (((List.getD x.snd.fst (Int.toNat a) (Ty.dflt t36)).snd.snd.fst !=
 (0 : Int)) =
 false →
 (Option.isSome
 (mget t3 t36
 (List.getD x.snd.fst (Int.toNat a) (Ty.dflt t36)).fst
 a_1) =
 true →
 (none, (8 : Int), ()) = newA x.fst x.snd.fst) ∧
 (Option.isSome
 (mget t3 t36
 (List.getD x.snd.fst (Int.toNat a) (Ty.dflt t36)).fst
 a_1) =
 false →
 ((mget t3 t36
 (List.getD x.snd.fst (Int.toNat a)
 (Ty.dflt t36)).fst
 a_1 =
 none ∧
 ((IntKind.wrap IntKind.i64 (a + (1 : Int)) =
 IntKind.wrap IntKind.i64 (a + (1 : Int)) ∧
 x.fst = x.fst ∧
 True ∧
 x.snd.fst = x.snd.fst ∧
 (↑(List.length x.snd.fst) : Int) =
 (↑(List.length x.snd.fst) : Int)) ∧
 ((a_1 ++
 [((List.getD x.snd.fst (Int.toNat a)
 (Ty.dflt t36)).fst,
 List.getD x.snd.fst (Int.toNat a)
 (Ty.dflt t36),
 ())] =
 a_1 ++
 [((List.getD x.snd.fst (Int.toNat a)
 (Ty.dflt t36)).fst,
 List.getD x.snd.fst (Int.toNat a)
 (Ty.dflt t36),
 ())] ∧
 True) ∧
 x.fst = x.fst ∧ True ∧ True) ∧
 x.snd.fst = x.snd.fst ∧ True) ∧
 Z
 (IntKind.wrap IntKind.i64 (a + (1 : Int)),
 a_1 ++
 [((List.getD x.snd.fst (Int.toNat a)
 (Ty.dflt t36)).fst,
 List.getD x.snd.fst (Int.toNat a)
 (Ty.dflt t36),
 ())],
 ()) ∧
 μ
 (IntKind.wrap IntKind.i64 (a + (1 : Int)),
 a_1 ++
 [((List.getD x.snd.fst (Int.toNat a)
 (Ty.dflt t36)).fst,
 List.getD x.snd.fst (Int.toNat a)
 (Ty.dflt t36),
 ())],
 ()) <
 μ (a, a_1, ())) ∧
 mget t3 t36
 (List.getD x.snd.fst (Int.toNat a)
 (Ty.dflt t36)).fst
 a_1 =
 none ∧
 ((IntKind.wrap IntKind.i64 (a + (1 : Int)) =
 IntKind.wrap IntKind.i64 (a + (1 : Int)) ∧
 x.fst = x.fst ∧
 True ∧
 x.snd.fst = x.snd.fst ∧
 (↑(List.length x.snd.fst) : Int) =
 (↑(List.length x.snd.fst) : Int)) ∧
 ((a_1 ++
 [((List.getD x.snd.fst (Int.toNat a)
 (Ty.dflt t36)).fst,
 List.getD x.snd.fst (Int.toNat a)
 (Ty.dflt t36),
 ())] =
 a_1 ++
 [((List.getD x.snd.fst (Int.toNat a)
 (Ty.dflt t36)).fst,
 List.getD x.snd.fst (Int.toNat a)
 (Ty.dflt t36),
 ())] ∧
 True) ∧
 x.fst = x.fst ∧ True ∧ True) ∧
 x.snd.fst = x.snd.fst ∧ True) ∧
 Z
 (IntKind.wrap IntKind.i64 (a + (1 : Int)),
 a_1 ++
 [((List.getD x.snd.fst (Int.toNat a)
 (Ty.dflt t36)).fst,
 List.getD x.snd.fst (Int.toNat a)
 (Ty.dflt t36),
 ())],
 ()) ∧
 μ
 (IntKind.wrap IntKind.i64 (a + (1 : Int)),
 a_1 ++
 [((List.getD x.snd.fst (Int.toNat a)
 (Ty.dflt t36)).fst,
 List.getD x.snd.fst (Int.toNat a)
 (Ty.dflt t36),
 ())],
 ()) <
 μ (a, a_1, ())) ∧
 ((mget t3 t36
 (List.getD x.snd.fst (Int.toNat a)
 (Ty.dflt t36)).fst
 a_1 =
 none ∧
 ((IntKind.wrap IntKind.i64 (a + (1 : Int)) =
 IntKind.wrap IntKind.i64 (a + (1 : Int)) ∧
 x.fst = x.fst ∧
 True ∧
 x.snd.fst = x.snd.fst ∧
 (↑(List.length x.snd.fst) : Int) =
 (↑(List.length x.snd.fst) : Int)) ∧
 ((a_1 ++
 [((List.getD x.snd.fst (Int.toNat a)
 (Ty.dflt t36)).fst,
 List.getD x.snd.fst (Int.toNat a)
 (Ty.dflt t36),
 ())] =
 a_1 ++
 [((List.getD x.snd.fst (Int.toNat a)
 (Ty.dflt t36)).fst,
 List.getD x.snd.fst (Int.toNat a)
 (Ty.dflt t36),
 ())] ∧
 True) ∧
 x.fst = x.fst ∧ True ∧ True) ∧
 x.snd.fst = x.snd.fst ∧ True) ∧
 Z
 (IntKind.wrap IntKind.i64 (a + (1 : Int)),
 a_1 ++
 [((List.getD x.snd.fst (Int.toNat a)
 (Ty.dflt t36)).fst,
 List.getD x.snd.fst (Int.toNat a)
 (Ty.dflt t36),
 ())],
 ()) ∧
 μ
 (IntKind.wrap IntKind.i64 (a + (1 : Int)),
 a_1 ++
 [((List.getD x.snd.fst (Int.toNat a)
 (Ty.dflt t36)).fst,
 List.getD x.snd.fst (Int.toNat a)
 (Ty.dflt t36),
 ())],
 ()) <
 μ (a, a_1, ())) ∧
 mget t3 t36
 (List.getD x.snd.fst (Int.toNat a)
 (Ty.dflt t36)).fst
 a_1 =
 none ∧
 ((IntKind.wrap IntKind.i64 (a + (1 : Int)) =
 IntKind.wrap IntKind.i64 (a + (1 : Int)) ∧
 x.fst = x.fst ∧
 True ∧
 x.snd.fst = x.snd.fst ∧
 (↑(List.length x.snd.fst) : Int) =
 (↑(List.length x.snd.fst) : Int)) ∧
 ((a_1 ++
 [((List.getD x.snd.fst (Int.toNat a)
 (Ty.dflt t36)).fst,
 List.getD x.snd.fst (Int.toNat a)
 (Ty.dflt t36),
 ())] =
 a_1 ++
 [((List.getD x.snd.fst (Int.toNat a)
 (Ty.dflt t36)).fst,
 List.getD x.snd.fst (Int.toNat a)
 (Ty.dflt t36),
 ())] ∧
 True) ∧
 x.fst = x.fst ∧ True ∧ True) ∧
 x.snd.fst = x.snd.fst ∧ True) ∧
 Z
 (IntKind.wrap IntKind.i64 (a + (1 : Int)),
 a_1 ++
 [((List.getD x.snd.fst (Int.toNat a)
 (Ty.dflt t36)).fst,
 List.getD x.snd.fst (Int.toNat a)
 (Ty.dflt t36),
 ())],
 ()) ∧
 μ
 (IntKind.wrap IntKind.i64 (a + (1 : Int)),
 a_1 ++
 [((List.getD x.snd.fst (Int.toNat a)
 (Ty.dflt t36)).fst,
 List.getD x.snd.fst (Int.toNat a)
 (Ty.dflt t36),
 ())],
 ()) <
 μ (a, a_1, ())) ∧
 (mget t3 t36
 (List.getD x.snd.fst (Int.toNat a)
 (Ty.dflt t36)).fst
 a_1 =
 none ∧
 ((IntKind.wrap IntKind.i64 (a + (1 : Int)) =
 IntKind.wrap IntKind.i64 (a + (1 : Int)) ∧
 x.fst = x.fst ∧
 True ∧
 x.snd.fst = x.snd.fst ∧
 (↑(List.length x.snd.fst) : Int) =
 (↑(List.length x.snd.fst) : Int)) ∧
 ((a_1 ++
 [((List.getD x.snd.fst (Int.toNat a)
 (Ty.dflt t36)).fst,
 List.getD x.snd.fst (Int.toNat a)
 (Ty.dflt t36),
 ())] =
 a_1 ++
 [((List.getD x.snd.fst (Int.toNat a)
 (Ty.dflt t36)).fst,
 List.getD x.snd.fst (Int.toNat a)
 (Ty.dflt t36),
 ())] ∧
 True) ∧
 x.fst = x.fst ∧ True ∧ True) ∧
 x.snd.fst = x.snd.fst ∧ True) ∧
 Z
 (IntKind.wrap IntKind.i64 (a + (1 : Int)),
 a_1 ++
 [((List.getD x.snd.fst (Int.toNat a)
 (Ty.dflt t36)).fst,
 List.getD x.snd.fst (Int.toNat a)
 (Ty.dflt t36),
 ())],
 ()) ∧
 μ
 (IntKind.wrap IntKind.i64 (a + (1 : Int)),
 a_1 ++
 [((List.getD x.snd.fst (Int.toNat a)
 (Ty.dflt t36)).fst,
 List.getD x.snd.fst (Int.toNat a)
 (Ty.dflt t36),
 ())],
 ()) <
 μ (a, a_1, ())) ∧
 mget t3 t36
 (List.getD x.snd.fst (Int.toNat a)
 (Ty.dflt t36)).fst
 a_1 =
 none ∧
 ((IntKind.wrap IntKind.i64 (a + (1 : Int)) =
 IntKind.wrap IntKind.i64 (a + (1 : Int)) ∧
 x.fst = x.fst ∧
 True ∧
 x.snd.fst = x.snd.fst ∧
 (↑(List.length x.snd.fst) : Int) =
 (↑(List.length x.snd.fst) : Int)) ∧
 ((a_1 ++
 [((List.getD x.snd.fst (Int.toNat a)
 (Ty.dflt t36)).fst,
 List.getD x.snd.fst (Int.toNat a)
 (Ty.dflt t36),
 ())] =
 a_1 ++
 [((List.getD x.snd.fst (Int.toNat a)
 (Ty.dflt t36)).fst,
 List.getD x.snd.fst (Int.toNat a)
 (Ty.dflt t36),
 ())] ∧
 True) ∧
 x.fst = x.fst ∧ True ∧ True) ∧
 x.snd.fst = x.snd.fst ∧ True) ∧
 Z
 (IntKind.wrap IntKind.i64 (a + (1 : Int)),
 a_1 ++
 [((List.getD x.snd.fst (Int.toNat a)
 (Ty.dflt t36)).fst,
 List.getD x.snd.fst (Int.toNat a)
 (Ty.dflt t36),
 ())],
 ()) ∧
 μ
 (IntKind.wrap IntKind.i64 (a + (1 : Int)),
 a_1 ++
 [((List.getD x.snd.fst (Int.toNat a)
 (Ty.dflt t36)).fst,
 List.getD x.snd.fst (Int.toNat a)
 (Ty.dflt t36),
 ())],
 ()) <
 μ (a, a_1, ())))))) ∧
 (decide
 ((List.getD x.snd.fst (Int.toNat a) (Ty.dflt t36)).snd.fst <
 (0 : Int)) =
 true →
 (none, (1 : Int), ()) = newA x.fst x.snd.fst) ∧
 (decide
 ((List.getD x.snd.fst (Int.toNat a) (Ty.dflt t36)).snd.fst <
 (0 : Int)) =
 false →
 (decide
 ((List.getD x.snd.fst (Int.toNat a) (Ty.dflt t36)).snd.fst >
 x.fst) =
 true →
 (none, (1 : Int), ()) = newA x.fst x.snd.fst) ∧
 (decide
 ((List.getD x.snd.fst (Int.toNat a) (Ty.dflt t36)).snd.fst >
 x.fst) =
 false →
 (((List.getD x.snd.fst (Int.toNat a) (Ty.dflt t36)).snd.snd.fst !=
 (0 : Int)) =
 true →
 (((List.getD x.snd.fst (Int.toNat a) (Ty.dflt t36)).snd.snd.fst !=
 (1 : Int)) =
 true →
 (none, (1 : Int), ()) = newA x.fst x.snd.fst) ∧
 (((List.getD x.snd.fst (Int.toNat a)
 (Ty.dflt t36)).snd.snd.fst !=
 (1 : Int)) =
 false →
 (Option.isSome
 (mget t3 t36
 (List.getD x.snd.fst (Int.toNat a)
 (Ty.dflt t36)).fst
 a_1) =
 true →
 (none, (8 : Int), ()) = newA x.fst x.snd.fst) ∧
 (Option.isSome
 (mget t3 t36
 (List.getD x.snd.fst (Int.toNat a)
 (Ty.dflt t36)).fst
 a_1) =
 false →
 ((mget t3 t36
 (List.getD x.snd.fst (Int.toNat a)
 (Ty.dflt t36)).fst
 a_1 =
 none ∧
 ((IntKind.wrap IntKind.i64 (a + (1 : Int)) =
 IntKind.wrap IntKind.i64 (a + (1 : Int)) ∧
 x.fst = x.fst ∧
 True ∧
 x.snd.fst = x.snd.fst ∧
 (↑(List.length x.snd.fst) : Int) =
 (↑(List.length x.snd.fst) : Int)) ∧
 ((a_1 ++
 [((List.getD x.snd.fst (Int.toNat a)
 (Ty.dflt t36)).fst,
 List.getD x.snd.fst (Int.toNat a)
 (Ty.dflt t36),
 ())] =
 a_1 ++
 [((List.getD x.snd.fst (Int.toNat a)
 (Ty.dflt t36)).fst,
 List.getD x.snd.fst (Int.toNat a)
 (Ty.dflt t36),
 ())] ∧
 True) ∧
 x.fst = x.fst ∧ True ∧ True) ∧
 x.snd.fst = x.snd.fst ∧ True) ∧
 Z
 (IntKind.wrap IntKind.i64 (a + (1 : Int)),
 a_1 ++
 [((List.getD x.snd.fst (Int.toNat a)
 (Ty.dflt t36)).fst,
 List.getD x.snd.fst (Int.toNat a)
 (Ty.dflt t36),
 ())],
 ()) ∧
 μ
 (IntKind.wrap IntKind.i64 (a + (1 : Int)),
 a_1 ++
 [((List.getD x.snd.fst (Int.toNat a)
 (Ty.dflt t36)).fst,
 List.getD x.snd.fst (Int.toNat a)
 (Ty.dflt t36),
 ())],
 ()) <
 μ (a, a_1, ())) ∧
 mget t3 t36
 (List.getD x.snd.fst (Int.toNat a)
 (Ty.dflt t36)).fst
 a_1 =
 none ∧
 ((IntKind.wrap IntKind.i64 (a + (1 : Int)) =
 IntKind.wrap IntKind.i64 (a + (1 : Int)) ∧
 x.fst = x.fst ∧
 True ∧
 x.snd.fst = x.snd.fst ∧
 (↑(List.length x.snd.fst) : Int) =
 (↑(List.length x.snd.fst) : Int)) ∧
 ((a_1 ++
 [((List.getD x.snd.fst (Int.toNat a)
 (Ty.dflt t36)).fst,
 List.getD x.snd.fst (Int.toNat a)
 (Ty.dflt t36),
 ())] =
 a_1 ++
 [((List.getD x.snd.fst (Int.toNat a)
 (Ty.dflt t36)).fst,
 List.getD x.snd.fst (Int.toNat a)
 (Ty.dflt t36),
 ())] ∧
 True) ∧
 x.fst = x.fst ∧ True ∧ True) ∧
 x.snd.fst = x.snd.fst ∧ True) ∧
 Z
 (IntKind.wrap IntKind.i64 (a + (1 : Int)),
 a_1 ++
 [((List.getD x.snd.fst (Int.toNat a)
 (Ty.dflt t36)).fst,
 List.getD x.snd.fst (Int.toNat a)
 (Ty.dflt t36),
 ())],
 ()) ∧
 μ
 (IntKind.wrap IntKind.i64 (a + (1 : Int)),
 a_1 ++
 [((List.getD x.snd.fst (Int.toNat a)
 (Ty.dflt t36)).fst,
 List.getD x.snd.fst (Int.toNat a)
 (Ty.dflt t36),
 ())],
 ()) <
 μ (a, a_1, ())) ∧
 ((mget t3 t36
 (List.getD x.snd.fst (Int.toNat a)
 (Ty.dflt t36)).fst
 a_1 =
 none ∧
 ((IntKind.wrap IntKind.i64 (a + (1 : Int)) =
 IntKind.wrap IntKind.i64 (a + (1 : Int)) ∧
 x.fst = x.fst ∧
 True ∧
 x.snd.fst = x.snd.fst ∧
 (↑(List.length x.snd.fst) : Int) =
 (↑(List.length x.snd.fst) : Int)) ∧
 ((a_1 ++
 [((List.getD x.snd.fst (Int.toNat a)
 (Ty.dflt t36)).fst,
 List.getD x.snd.fst
 (Int.toNat a) (Ty.dflt t36),
 ())] =
 a_1 ++
 [((List.getD x.snd.fst (Int.toNat a)
 (Ty.dflt t36)).fst,
 List.getD x.snd.fst
 (Int.toNat a) (Ty.dflt t36),
 ())] ∧
 True) ∧
 x.fst = x.fst ∧ True ∧ True) ∧
 x.snd.fst = x.snd.fst ∧ True) ∧
 Z
 (IntKind.wrap IntKind.i64 (a + (1 : Int)),
 a_1 ++
 [((List.getD x.snd.fst (Int.toNat a)
 (Ty.dflt t36)).fst,
 List.getD x.snd.fst (Int.toNat a)
 (Ty.dflt t36),
 ())],
 ()) ∧
 μ
 (IntKind.wrap IntKind.i64 (a + (1 : Int)),
 a_1 ++
 [((List.getD x.snd.fst (Int.toNat a)
 (Ty.dflt t36)).fst,
 List.getD x.snd.fst (Int.toNat a)
 (Ty.dflt t36),
 ())],
 ()) <
 μ (a, a_1, ())) ∧
 mget t3 t36
 (List.getD x.snd.fst (Int.toNat a)
 (Ty.dflt t36)).fst
 a_1 =
 none ∧
 ((IntKind.wrap IntKind.i64 (a + (1 : Int)) =
 IntKind.wrap IntKind.i64 (a + (1 : Int)) ∧
 x.fst = x.fst ∧
 True ∧
 x.snd.fst = x.snd.fst ∧
 (↑(List.length x.snd.fst) : Int) =
 (↑(List.length x.snd.fst) : Int)) ∧
 ((a_1 ++
 [((List.getD x.snd.fst (Int.toNat a)
 (Ty.dflt t36)).fst,
 List.getD x.snd.fst
 (Int.toNat a) (Ty.dflt t36),
 ())] =
 a_1 ++
 [((List.getD x.snd.fst (Int.toNat a)
 (Ty.dflt t36)).fst,
 List.getD x.snd.fst
 (Int.toNat a) (Ty.dflt t36),
 ())] ∧
 True) ∧
 x.fst = x.fst ∧ True ∧ True) ∧
 x.snd.fst = x.snd.fst ∧ True) ∧
 Z
 (IntKind.wrap IntKind.i64 (a + (1 : Int)),
 a_1 ++
 [((List.getD x.snd.fst (Int.toNat a)
 (Ty.dflt t36)).fst,
 List.getD x.snd.fst (Int.toNat a)
 (Ty.dflt t36),
 ())],
 ()) ∧
 μ
 (IntKind.wrap IntKind.i64 (a + (1 : Int)),
 a_1 ++
 [((List.getD x.snd.fst (Int.toNat a)
 (Ty.dflt t36)).fst,
 List.getD x.snd.fst (Int.toNat a)
 (Ty.dflt t36),
 ())],
 ()) <
 μ (a, a_1, ())) ∧
 (mget t3 t36
 (List.getD x.snd.fst (Int.toNat a)
 (Ty.dflt t36)).fst
 a_1 =
 none ∧
 ((IntKind.wrap IntKind.i64 (a + (1 : Int)) =
 IntKind.wrap IntKind.i64 (a + (1 : Int)) ∧
 x.fst = x.fst ∧
 True ∧
 x.snd.fst = x.snd.fst ∧
 (↑(List.length x.snd.fst) : Int) =
 (↑(List.length x.snd.fst) : Int)) ∧
 ((a_1 ++
 [((List.getD x.snd.fst (Int.toNat a)
 (Ty.dflt t36)).fst,
 List.getD x.snd.fst
 (Int.toNat a) (Ty.dflt t36),
 ())] =
 a_1 ++
 [((List.getD x.snd.fst (Int.toNat a)
 (Ty.dflt t36)).fst,
 List.getD x.snd.fst
 (Int.toNat a) (Ty.dflt t36),
 ())] ∧
 True) ∧
 x.fst = x.fst ∧ True ∧ True) ∧
 x.snd.fst = x.snd.fst ∧ True) ∧
 Z
 (IntKind.wrap IntKind.i64 (a + (1 : Int)),
 a_1 ++
 [((List.getD x.snd.fst (Int.toNat a)
 (Ty.dflt t36)).fst,
 List.getD x.snd.fst (Int.toNat a)
 (Ty.dflt t36),
 ())],
 ()) ∧
 μ
 (IntKind.wrap IntKind.i64 (a + (1 : Int)),
 a_1 ++
 [((List.getD x.snd.fst (Int.toNat a)
 (Ty.dflt t36)).fst,
 List.getD x.snd.fst (Int.toNat a)
 (Ty.dflt t36),
 ())],
 ()) <
 μ (a, a_1, ())) ∧
 mget t3 t36
 (List.getD x.snd.fst (Int.toNat a)
 (Ty.dflt t36)).fst
 a_1 =
 none ∧
 ((IntKind.wrap IntKind.i64 (a + (1 : Int)) =
 IntKind.wrap IntKind.i64 (a + (1 : Int)) ∧
 x.fst = x.fst ∧
 True ∧
 x.snd.fst = x.snd.fst ∧
 (↑(List.length x.snd.fst) : Int) =
 (↑(List.length x.snd.fst) : Int)) ∧
 ((a_1 ++
 [((List.getD x.snd.fst (Int.toNat a)
 (Ty.dflt t36)).fst,
 List.getD x.snd.fst
 (Int.toNat a) (Ty.dflt t36),
 ())] =
 a_1 ++
 [((List.getD x.snd.fst (Int.toNat a)
 (Ty.dflt t36)).fst,
 List.getD x.snd.fst
 (Int.toNat a) (Ty.dflt t36),
 ())] ∧
 True) ∧
 x.fst = x.fst ∧ True ∧ True) ∧
 x.snd.fst = x.snd.fst ∧ True) ∧
 Z
 (IntKind.wrap IntKind.i64 (a + (1 : Int)),
 a_1 ++
 [((List.getD x.snd.fst (Int.toNat a)
 (Ty.dflt t36)).fst,
 List.getD x.snd.fst (Int.toNat a)
 (Ty.dflt t36),
 ())],
 ()) ∧
 μ
 (IntKind.wrap IntKind.i64 (a + (1 : Int)),
 a_1 ++
 [((List.getD x.snd.fst (Int.toNat a)
 (Ty.dflt t36)).fst,
 List.getD x.snd.fst (Int.toNat a)
 (Ty.dflt t36),
 ())],
 ()) <
 μ (a, a_1, ())))) ∧
 (((List.getD x.snd.fst (Int.toNat a) (Ty.dflt t36)).snd.snd.fst !=
 (0 : Int)) =
 false →
 (Option.isSome
 (mget t3 t36
 (List.getD x.snd.fst (Int.toNat a) (Ty.dflt t36)).fst
 a_1) =
 true →
 (none, (8 : Int), ()) = newA x.fst x.snd.fst) ∧
 (Option.isSome
 (mget t3 t36
 (List.getD x.snd.fst (Int.toNat a) (Ty.dflt t36)).fst
 a_1) =
 false →
 ((mget t3 t36
 (List.getD x.snd.fst (Int.toNat a)
 (Ty.dflt t36)).fst
 a_1 =
 none ∧
 ((IntKind.wrap IntKind.i64 (a + (1 : Int)) =
 IntKind.wrap IntKind.i64 (a + (1 : Int)) ∧
 x.fst = x.fst ∧
 True ∧
 x.snd.fst = x.snd.fst ∧
 (↑(List.length x.snd.fst) : Int) =
 (↑(List.length x.snd.fst) : Int)) ∧
 ((a_1 ++
 [((List.getD x.snd.fst (Int.toNat a)
 (Ty.dflt t36)).fst,
 List.getD x.snd.fst (Int.toNat a)
 (Ty.dflt t36),
 ())] =
 a_1 ++
 [((List.getD x.snd.fst (Int.toNat a)
 (Ty.dflt t36)).fst,
 List.getD x.snd.fst (Int.toNat a)
 (Ty.dflt t36),
 ())] ∧
 True) ∧
 x.fst = x.fst ∧ True ∧ True) ∧
 x.snd.fst = x.snd.fst ∧ True) ∧
 Z
 (IntKind.wrap IntKind.i64 (a + (1 : Int)),
 a_1 ++
 [((List.getD x.snd.fst (Int.toNat a)
 (Ty.dflt t36)).fst,
 List.getD x.snd.fst (Int.toNat a)
 (Ty.dflt t36),
 ())],
 ()) ∧
 μ
 (IntKind.wrap IntKind.i64 (a + (1 : Int)),
 a_1 ++
 [((List.getD x.snd.fst (Int.toNat a)
 (Ty.dflt t36)).fst,
 List.getD x.snd.fst (Int.toNat a)
 (Ty.dflt t36),
 ())],
 ()) <
 μ (a, a_1, ())) ∧
 mget t3 t36
 (List.getD x.snd.fst (Int.toNat a)
 (Ty.dflt t36)).fst
 a_1 =
 none ∧
 ((IntKind.wrap IntKind.i64 (a + (1 : Int)) =
 IntKind.wrap IntKind.i64 (a + (1 : Int)) ∧
 x.fst = x.fst ∧
 True ∧
 x.snd.fst = x.snd.fst ∧
 (↑(List.length x.snd.fst) : Int) =
 (↑(List.length x.snd.fst) : Int)) ∧
 ((a_1 ++
 [((List.getD x.snd.fst (Int.toNat a)
 (Ty.dflt t36)).fst,
 List.getD x.snd.fst (Int.toNat a)
 (Ty.dflt t36),
 ())] =
 a_1 ++
 [((List.getD x.snd.fst (Int.toNat a)
 (Ty.dflt t36)).fst,
 List.getD x.snd.fst (Int.toNat a)
 (Ty.dflt t36),
 ())] ∧
 True) ∧
 x.fst = x.fst ∧ True ∧ True) ∧
 x.snd.fst = x.snd.fst ∧ True) ∧
 Z
 (IntKind.wrap IntKind.i64 (a + (1 : Int)),
 a_1 ++
 [((List.getD x.snd.fst (Int.toNat a)
 (Ty.dflt t36)).fst,
 List.getD x.snd.fst (Int.toNat a)
 (Ty.dflt t36),
 ())],
 ()) ∧
 μ
 (IntKind.wrap IntKind.i64 (a + (1 : Int)),
 a_1 ++
 [((List.getD x.snd.fst (Int.toNat a)
 (Ty.dflt t36)).fst,
 List.getD x.snd.fst (Int.toNat a)
 (Ty.dflt t36),
 ())],
 ()) <
 μ (a, a_1, ())) ∧
 ((mget t3 t36
 (List.getD x.snd.fst (Int.toNat a)
 (Ty.dflt t36)).fst
 a_1 =
 none ∧
 ((IntKind.wrap IntKind.i64 (a + (1 : Int)) =
 IntKind.wrap IntKind.i64 (a + (1 : Int)) ∧
 x.fst = x.fst ∧
 True ∧
 x.snd.fst = x.snd.fst ∧
 (↑(List.length x.snd.fst) : Int) =
 (↑(List.length x.snd.fst) : Int)) ∧
 ((a_1 ++
 [((List.getD x.snd.fst (Int.toNat a)
 (Ty.dflt t36)).fst,
 List.getD x.snd.fst (Int.toNat a)
 (Ty.dflt t36),
 ())] =
 a_1 ++
 [((List.getD x.snd.fst (Int.toNat a)
 (Ty.dflt t36)).fst,
 List.getD x.snd.fst (Int.toNat a)
 (Ty.dflt t36),
 ())] ∧
 True) ∧
 x.fst = x.fst ∧ True ∧ True) ∧
 x.snd.fst = x.snd.fst ∧ True) ∧
 Z
 (IntKind.wrap IntKind.i64 (a + (1 : Int)),
 a_1 ++
 [((List.getD x.snd.fst (Int.toNat a)
 (Ty.dflt t36)).fst,
 List.getD x.snd.fst (Int.toNat a)
 (Ty.dflt t36),
 ())],
 ()) ∧
 μ
 (IntKind.wrap IntKind.i64 (a + (1 : Int)),
 a_1 ++
 [((List.getD x.snd.fst (Int.toNat a)
 (Ty.dflt t36)).fst,
 List.getD x.snd.fst (Int.toNat a)
 (Ty.dflt t36),
 ())],
 ()) <
 μ (a, a_1, ())) ∧
 mget t3 t36
 (List.getD x.snd.fst (Int.toNat a)
 (Ty.dflt t36)).fst
 a_1 =
 none ∧
 ((IntKind.wrap IntKind.i64 (a + (1 : Int)) =
 IntKind.wrap IntKind.i64 (a + (1 : Int)) ∧
 x.fst = x.fst ∧
 True ∧
 x.snd.fst = x.snd.fst ∧
 (↑(List.length x.snd.fst) : Int) =
 (↑(List.length x.snd.fst) : Int)) ∧
 ((a_1 ++
 [((List.getD x.snd.fst (Int.toNat a)
 (Ty.dflt t36)).fst,
 List.getD x.snd.fst (Int.toNat a)
 (Ty.dflt t36),
 ())] =
 a_1 ++
 [((List.getD x.snd.fst (Int.toNat a)
 (Ty.dflt t36)).fst,
 List.getD x.snd.fst (Int.toNat a)
 (Ty.dflt t36),
 ())] ∧
 True) ∧
 x.fst = x.fst ∧ True ∧ True) ∧
 x.snd.fst = x.snd.fst ∧ True) ∧
 Z
 (IntKind.wrap IntKind.i64 (a + (1 : Int)),
 a_1 ++
 [((List.getD x.snd.fst (Int.toNat a)
 (Ty.dflt t36)).fst,
 List.getD x.snd.fst (Int.toNat a)
 (Ty.dflt t36),
 ())],
 ()) ∧
 μ
 (IntKind.wrap IntKind.i64 (a + (1 : Int)),
 a_1 ++
 [((List.getD x.snd.fst (Int.toNat a)
 (Ty.dflt t36)).fst,
 List.getD x.snd.fst (Int.toNat a)
 (Ty.dflt t36),
 ())],
 ()) <
 μ (a, a_1, ())) ∧
 (mget t3 t36
 (List.getD x.snd.fst (Int.toNat a)
 (Ty.dflt t36)).fst
 a_1 =
 none ∧
 ((IntKind.wrap IntKind.i64 (a + (1 : Int)) =
 IntKind.wrap IntKind.i64 (a + (1 : Int)) ∧
 x.fst = x.fst ∧
 True ∧
 x.snd.fst = x.snd.fst ∧
 (↑(List.length x.snd.fst) : Int) =
 (↑(List.length x.snd.fst) : Int)) ∧
 ((a_1 ++
 [((List.getD x.snd.fst (Int.toNat a)
 (Ty.dflt t36)).fst,
 List.getD x.snd.fst (Int.toNat a)
 (Ty.dflt t36),
 ())] =
 a_1 ++
 [((List.getD x.snd.fst (Int.toNat a)
 (Ty.dflt t36)).fst,
 List.getD x.snd.fst (Int.toNat a)
 (Ty.dflt t36),
 ())] ∧
 True) ∧
 x.fst = x.fst ∧ True ∧ True) ∧
 x.snd.fst = x.snd.fst ∧ True) ∧
 Z
 (IntKind.wrap IntKind.i64 (a + (1 : Int)),
 a_1 ++
 [((List.getD x.snd.fst (Int.toNat a)
 (Ty.dflt t36)).fst,
 List.getD x.snd.fst (Int.toNat a)
 (Ty.dflt t36),
 ())],
 ()) ∧
 μ
 (IntKind.wrap IntKind.i64 (a + (1 : Int)),
 a_1 ++
 [((List.getD x.snd.fst (Int.toNat a)
 (Ty.dflt t36)).fst,
 List.getD x.snd.fst (Int.toNat a)
 (Ty.dflt t36),
 ())],
 ()) <
 μ (a, a_1, ())) ∧
 mget t3 t36
 (List.getD x.snd.fst (Int.toNat a)
 (Ty.dflt t36)).fst
 a_1 =
 none ∧
 ((IntKind.wrap IntKind.i64 (a + (1 : Int)) =
 IntKind.wrap IntKind.i64 (a + (1 : Int)) ∧
 x.fst = x.fst ∧
 True ∧
 x.snd.fst = x.snd.fst ∧
 (↑(List.length x.snd.fst) : Int) =
 (↑(List.length x.snd.fst) : Int)) ∧
 ((a_1 ++
 [((List.getD x.snd.fst (Int.toNat a)
 (Ty.dflt t36)).fst,
 List.getD x.snd.fst (Int.toNat a)
 (Ty.dflt t36),
 ())] =
 a_1 ++
 [((List.getD x.snd.fst (Int.toNat a)
 (Ty.dflt t36)).fst,
 List.getD x.snd.fst (Int.toNat a)
 (Ty.dflt t36),
 ())] ∧
 True) ∧
 x.fst = x.fst ∧ True ∧ True) ∧
 x.snd.fst = x.snd.fst ∧ True) ∧
 Z
 (IntKind.wrap IntKind.i64 (a + (1 : Int)),
 a_1 ++
 [((List.getD x.snd.fst (Int.toNat a)
 (Ty.dflt t36)).fst,
 List.getD x.snd.fst (Int.toNat a)
 (Ty.dflt t36),
 ())],
 ()) ∧
 μ
 (IntKind.wrap IntKind.i64 (a + (1 : Int)),
 a_1 ++
 [((List.getD x.snd.fst (Int.toNat a)
 (Ty.dflt t36)).fst,
 List.getD x.snd.fst (Int.toNat a)
 (Ty.dflt t36),
 ())],
 ()) <
 μ (a, a_1, ())))))) ∧
 (decide (a < (↑(List.length x.snd.fst) : Int)) = false →
 List.length x.snd.fst ≤ (100000 : Nat) ∧
 ∀ (ys : List Anc),
 List.Perm ys x.snd.fst ∧
 List.Pairwise (fun (a b : Anc) ↦ ¬cmpA b a < (0 : Int)) ys →
 (some (x.fst, ys, a_1, ()), (0 : Int), ()) = newA x.fst x.snd.fst))))
theorem vcEq9 : fnVC E9 Try.f9 (bodyOf Try.f9) cNew = vc9 := by kernel_rfl
/- fn O15 -/
def hsO15 : List (Nat × Nat × Hint) := []
def nmO15 : List Nat := [3000000023, 3000000025, 3000000038]
noncomputable def EO15 : Env := envR tab [(22, cCloneO)] [] noGl hsO15 nmO15 []
def vcO15 : Prop :=
 ∀ (x : Option (Int × List Anc × List (Int × Anc × Unit) × Unit) × Unit),
 List.length (allA x.fst) ≤ (10000 : Nat) →
 (Option.isNone x.fst = true → [] = allA x.fst) ∧
 (Option.isNone x.fst = false →
 Option.isSome x.fst = true ∧
 List.length (List.getD (optL x.fst) (0 : Nat) (Ty.dflt t60)).snd.fst ≤ (10000 : Nat) ∧
 (List.getD (optL x.fst) (0 : Nat) (Ty.dflt t60)).snd.fst = allA x.fst)
theorem vcEqO15 : fnVCO EO15 Try.f15 (bodyOf Try.f15) cAllO = vcO15 := by kernel_rfl
/- fn 16 -/
def hs16 : List (Nat × Nat × Hint) := [(260011, 5, ⟨[.rowN 8 t36 36, .slot 260016 t3, .slot 260017 t3], [260011, 260012, 6], [4, 5], []⟩),
  (650053, 2, ⟨[.slot 650061 t3], [650053, 650054, 650060, 260011, 260012, 260016, 6], [260018, 4, 5], [8]⟩)]
def nm16 : List Nat := [2000260049, 2000260052, 3000000023, 3000000025, 3000000038]
noncomputable def E16 : Env := env tab [(15, cAllO)] [(26, Try.f26), (25, Try.f25), (38, Try.f38)] noGl hs16 nm16
def vc16 : Prop :=
 ∀
 (x :
 Option (Int × List Anc × List (Int × Anc × Unit) × Unit) ×
 Int × Int × Unit),
 List.length (allA x.fst) ≤ (10000 : Nat) →
 List.length (allA x.fst) ≤ (10000 : Nat) ∧
 (((0 : Int) = (0 : Int) ∧
 True ∧
 (True ∧ True) ∧
 (↑(List.length (allA x.fst)) : Int) = (↑(List.length (allA x.fst)) : Int) ∧
 True ∧
 (True ∧ True) ∧
 True ∧ Value.slice none (0 : Nat) (0 : Nat) = Value.slice none (0 : Nat) (0 : Nat)) ∧
 (x.snd.fst = x.snd.fst ∧ x.snd.snd.fst = x.snd.snd.fst) ∧ allA x.fst = allA x.fst ∧ True) ∧
 ∃ (Z : Int × Unit → Prop),
 ∃ (μ : Int × Unit → Nat),
 Z ((0 : Int), ()) ∧
 ∀ (a : Int),
 Z (a, ()) →
 (decide (a < (↑(List.length (allA x.fst)) : Int)) = true →
 ((0 : Int) ≤ a ∧ a < (↑(List.length (allA x.fst)) : Int)) ∧
 (decide ((List.getD (allA x.fst) (Int.toNat a) (Ty.dflt t36)).snd.fst < x.snd.fst) = true →
 ((a == (-1 : Int)) = true →
 allA x.fst = List.filter (inA x.snd.fst x.snd.snd.fst) (allA x.fst)) ∧
 ((a == (-1 : Int)) = false →
 ((IntKind.wrap IntKind.i64 (a + (1 : Int)) = IntKind.wrap IntKind.i64 (a + (1 : Int)) ∧
 a = a ∧
 True ∧
 (True ∧ True) ∧
 Value.slice none (0 : Nat) (0 : Nat) =
 Value.slice none (0 : Nat) (0 : Nat)) ∧
 (x.snd.fst = x.snd.fst ∧ x.snd.snd.fst = x.snd.snd.fst) ∧
 allA x.fst = allA x.fst ∧ True) ∧
 ∃ (Z : List Anc × Int × Int × Unit → Prop),
 ∃ (μ : List Anc × Int × Int × Unit → Nat),
 Z (allA x.fst, a, IntKind.wrap IntKind.i64 (a + (1 : Int)), ()) ∧
 ∀ (a : List Anc) (a_5 a_6 : Int),
 Z (a, a_5, a_6, ()) →
 (decide (a_6 < (↑(List.length a) : Int)) = true →
 ((0 : Int) ≤ a_6 ∧ a_6 < (↑(List.length a) : Int)) ∧
 (decide
 ((List.getD a (Int.toNat a_6) (Ty.dflt t36)).snd.fst <
 x.snd.fst) =
 true →
 ((!true) = true →
 ((0 : Int) ≤ a_5 ∧ a_5 < (↑(List.length a) : Int)) ∧
 ((IntKind.wrap IntKind.i64 (a_6 + (1 : Int)) =
 IntKind.wrap IntKind.i64 (a_6 + (1 : Int)) ∧
 IntKind.wrap IntKind.i64 (a_5 + (1 : Int)) =
 IntKind.wrap IntKind.i64 (a_5 + (1 : Int)) ∧
 True ∧
 (True ∧ True) ∧
 Value.slice none (0 : Nat) (0 : Nat) =
 Value.slice none (0 : Nat) (0 : Nat)) ∧
 (x.snd.fst = x.snd.fst ∧
 x.snd.snd.fst = x.snd.snd.fst) ∧
 List.set a (Int.toNat a_5)
 (List.getD a (Int.toNat a_6) (Ty.dflt t36)) =
 List.set a (Int.toNat a_5)
 (List.getD a (Int.toNat a_6) (Ty.dflt t36)) ∧
 True) ∧
 Z
 (List.set a (Int.toNat a_5)
 (List.getD a (Int.toNat a_6) (Ty.dflt t36)),
 IntKind.wrap IntKind.i64 (a_5 + (1 : Int)),
 IntKind.wrap IntKind.i64 (a_6 + (1 : Int)), ()) ∧
 μ
 (List.set a (Int.toNat a_5)
 (List.getD a (Int.toNat a_6) (Ty.dflt t36)),
 IntKind.wrap IntKind.i64 (a_5 + (1 : Int)),
 IntKind.wrap IntKind.i64 (a_6 + (1 : Int)), ()) <
 μ (a, a_5, a_6, ())) ∧
 ((!true) = false →
 ((IntKind.wrap IntKind.i64 (a_6 + (1 : Int)) =
 IntKind.wrap IntKind.i64 (a_6 + (1 : Int)) ∧
 a_5 = a_5 ∧
 True ∧
 (True ∧ True) ∧
 Value.slice none (0 : Nat) (0 : Nat) =
 Value.slice none (0 : Nat) (0 : Nat)) ∧
 (x.snd.fst = x.snd.fst ∧ x.snd.snd.fst = x.snd.snd.fst) ∧
 a = a ∧ True) ∧
 Z (a, a_5, IntKind.wrap IntKind.i64 (a_6 + (1 : Int)), ()) ∧
 μ
 (a, a_5, IntKind.wrap IntKind.i64 (a_6 + (1 : Int)),
 ()) <
 μ (a, a_5, a_6, ()))) ∧
 (decide
 ((List.getD a (Int.toNat a_6) (Ty.dflt t36)).snd.fst <
 x.snd.fst) =
 false →
 ((!decide
 ((List.getD a (Int.toNat a_6) (Ty.dflt t36)).snd.fst >
 x.snd.snd.fst)) =
 true →
 ((0 : Int) ≤ a_5 ∧ a_5 < (↑(List.length a) : Int)) ∧
 ((IntKind.wrap IntKind.i64 (a_6 + (1 : Int)) =
 IntKind.wrap IntKind.i64 (a_6 + (1 : Int)) ∧
 IntKind.wrap IntKind.i64 (a_5 + (1 : Int)) =
 IntKind.wrap IntKind.i64 (a_5 + (1 : Int)) ∧
 True ∧
 (True ∧ True) ∧
 Value.slice none (0 : Nat) (0 : Nat) =
 Value.slice none (0 : Nat) (0 : Nat)) ∧
 (x.snd.fst = x.snd.fst ∧
 x.snd.snd.fst = x.snd.snd.fst) ∧
 List.set a (Int.toNat a_5)
 (List.getD a (Int.toNat a_6) (Ty.dflt t36)) =
 List.set a (Int.toNat a_5)
 (List.getD a (Int.toNat a_6) (Ty.dflt t36)) ∧
 True) ∧
 Z
 (List.set a (Int.toNat a_5)
 (List.getD a (Int.toNat a_6) (Ty.dflt t36)),
 IntKind.wrap IntKind.i64 (a_5 + (1 : Int)),
 IntKind.wrap IntKind.i64 (a_6 + (1 : Int)), ()) ∧
 μ
 (List.set a (Int.toNat a_5)
 (List.getD a (Int.toNat a_6) (Ty.dflt t36)),
 IntKind.wrap IntKind.i64 (a_5 + (1 : Int)),
 IntKind.wrap IntKind.i64 (a_6 + (1 : Int)), ()) <
 μ (a, a_5, a_6, ())) ∧
 ((!decide
 ((List.getD a (Int.toNat a_6) (Ty.dflt t36)).snd.fst >
 x.snd.snd.fst)) =
 false →
 ((IntKind.wrap IntKind.i64 (a_6 + (1 : Int)) =
 IntKind.wrap IntKind.i64 (a_6 + (1 : Int)) ∧
 a_5 = a_5 ∧
 True ∧
 (True ∧ True) ∧
 Value.slice none (0 : Nat) (0 : Nat) =
 Value.slice none (0 : Nat) (0 : Nat)) ∧
 (x.snd.fst = x.snd.fst ∧ x.snd.snd.fst = x.snd.snd.fst) ∧
 a = a ∧ True) ∧
 Z (a, a_5, IntKind.wrap IntKind.i64 (a_6 + (1 : Int)), ()) ∧
 μ
 (a, a_5, IntKind.wrap IntKind.i64 (a_6 + (1 : Int)),
 ()) <
 μ (a, a_5, a_6, ())))) ∧
 (decide (a_6 < (↑(List.length a) : Int)) = false →
 ((0 : Int) ≤ a_5 ∧ a_5 < (↑(List.length a) : Int)) ∧
 ((0 : Int) ≤ a_5 ∧
 a_5 ≤
 (↑(List.length
 (List.take (Int.toNat a_5) a ++
 List.replicate (List.length a - Int.toNat a_5)
 ((0 : Int), (0 : Int), (0 : Int), ()))) :
 Int)) ∧
 List.take (Int.toNat a_5)
 (List.take (Int.toNat a_5) a ++
 List.replicate (List.length a - Int.toNat a_5)
 ((0 : Int), (0 : Int), (0 : Int), ())) =
 List.filter (inA x.snd.fst x.snd.snd.fst) (allA x.fst)))) ∧
 (decide ((List.getD (allA x.fst) (Int.toNat a) (Ty.dflt t36)).snd.fst < x.snd.fst) = false →
 (decide ((List.getD (allA x.fst) (Int.toNat a) (Ty.dflt t36)).snd.fst > x.snd.snd.fst) =
 true →
 ((a == (-1 : Int)) = true →
 allA x.fst = List.filter (inA x.snd.fst x.snd.snd.fst) (allA x.fst)) ∧
 ((a == (-1 : Int)) = false →
 ((IntKind.wrap IntKind.i64 (a + (1 : Int)) =
 IntKind.wrap IntKind.i64 (a + (1 : Int)) ∧
 a = a ∧
 True ∧
 (True ∧ True) ∧
 Value.slice none (0 : Nat) (0 : Nat) =
 Value.slice none (0 : Nat) (0 : Nat)) ∧
 (x.snd.fst = x.snd.fst ∧ x.snd.snd.fst = x.snd.snd.fst) ∧
 allA x.fst = allA x.fst ∧ True) ∧
 ∃ (Z : List Anc × Int × Int × Unit → Prop),
 ∃ (μ : List Anc × Int × Int × Unit → Nat),
 Z (allA x.fst, a, IntKind.wrap IntKind.i64 (a + (1 : Int)), ()) ∧
 ∀ (a : List Anc) (a_6 a_7 : Int),
 Z (a, a_6, a_7, ()) →
 (decide (a_7 < (↑(List.length a) : Int)) = true →
 ((0 : Int) ≤ a_7 ∧ a_7 < (↑(List.length a) : Int)) ∧
 (decide
 ((List.getD a (Int.toNat a_7) (Ty.dflt t36)).snd.fst <
 x.snd.fst) =
 true →
 ((!true) = true →
 ((0 : Int) ≤ a_6 ∧ a_6 < (↑(List.length a) : Int)) ∧
 ((IntKind.wrap IntKind.i64 (a_7 + (1 : Int)) =
 IntKind.wrap IntKind.i64 (a_7 + (1 : Int)) ∧
 IntKind.wrap IntKind.i64 (a_6 + (1 : Int)) =
 IntKind.wrap IntKind.i64 (a_6 + (1 : Int)) ∧
 True ∧
 (True ∧ True) ∧
 Value.slice none (0 : Nat) (0 : Nat) =
 Value.slice none (0 : Nat) (0 : Nat)) ∧
 (x.snd.fst = x.snd.fst ∧
 x.snd.snd.fst = x.snd.snd.fst) ∧
 List.set a (Int.toNat a_6)
 (List.getD a (Int.toNat a_7)
 (Ty.dflt t36)) =
 List.set a (Int.toNat a_6)
 (List.getD a (Int.toNat a_7)
 (Ty.dflt t36)) ∧
 True) ∧
 Z
 (List.set a (Int.toNat a_6)
 (List.getD a (Int.toNat a_7) (Ty.dflt t36)),
 IntKind.wrap IntKind.i64 (a_6 + (1 : Int)),
 IntKind.wrap IntKind.i64 (a_7 + (1 : Int)),
 ()) ∧
 μ
 (List.set a (Int.toNat a_6)
 (List.getD a (Int.toNat a_7) (Ty.dflt t36)),
 IntKind.wrap IntKind.i64 (a_6 + (1 : Int)),
 IntKind.wrap IntKind.i64 (a_7 + (1 : Int)),
 ()) <
 μ (a, a_6, a_7, ())) ∧
 ((!true) = false →
 ((IntKind.wrap IntKind.i64 (a_7 + (1 : Int)) =
 IntKind.wrap IntKind.i64 (a_7 + (1 : Int)) ∧
 a_6 = a_6 ∧
 True ∧
 (True ∧ True) ∧
 Value.slice none (0 : Nat) (0 : Nat) =
 Value.slice none (0 : Nat) (0 : Nat)) ∧
 (x.snd.fst = x.snd.fst ∧
 x.snd.snd.fst = x.snd.snd.fst) ∧
 a = a ∧ True) ∧
 Z
 (a, a_6, IntKind.wrap IntKind.i64 (a_7 + (1 : Int)),
 ()) ∧
 μ
 (a, a_6,
 IntKind.wrap IntKind.i64 (a_7 + (1 : Int)),
 ()) <
 μ (a, a_6, a_7, ()))) ∧
 (decide
 ((List.getD a (Int.toNat a_7) (Ty.dflt t36)).snd.fst <
 x.snd.fst) =
 false →
 ((!decide
 ((List.getD a (Int.toNat a_7)
 (Ty.dflt t36)).snd.fst >
 x.snd.snd.fst)) =
 true →
 ((0 : Int) ≤ a_6 ∧ a_6 < (↑(List.length a) : Int)) ∧
 ((IntKind.wrap IntKind.i64 (a_7 + (1 : Int)) =
 IntKind.wrap IntKind.i64 (a_7 + (1 : Int)) ∧
 IntKind.wrap IntKind.i64 (a_6 + (1 : Int)) =
 IntKind.wrap IntKind.i64 (a_6 + (1 : Int)) ∧
 True ∧
 (True ∧ True) ∧
 Value.slice none (0 : Nat) (0 : Nat) =
 Value.slice none (0 : Nat) (0 : Nat)) ∧
 (x.snd.fst = x.snd.fst ∧
 x.snd.snd.fst = x.snd.snd.fst) ∧
 List.set a (Int.toNat a_6)
 (List.getD a (Int.toNat a_7)
 (Ty.dflt t36)) =
 List.set a (Int.toNat a_6)
 (List.getD a (Int.toNat a_7)
 (Ty.dflt t36)) ∧
 True) ∧
 Z
 (List.set a (Int.toNat a_6)
 (List.getD a (Int.toNat a_7) (Ty.dflt t36)),
 IntKind.wrap IntKind.i64 (a_6 + (1 : Int)),
 IntKind.wrap IntKind.i64 (a_7 + (1 : Int)),
 ()) ∧
 μ
 (List.set a (Int.toNat a_6)
 (List.getD a (Int.toNat a_7) (Ty.dflt t36)),
 IntKind.wrap IntKind.i64 (a_6 + (1 : Int)),
 IntKind.wrap IntKind.i64 (a_7 + (1 : Int)),
 ()) <
 μ (a, a_6, a_7, ())) ∧
 ((!decide
 ((List.getD a (Int.toNat a_7)
 (Ty.dflt t36)).snd.fst >
 x.snd.snd.fst)) =
 false →
 ((IntKind.wrap IntKind.i64 (a_7 + (1 : Int)) =
 IntKind.wrap IntKind.i64 (a_7 + (1 : Int)) ∧
 a_6 = a_6 ∧
 True ∧
 (True ∧ True) ∧
 Value.slice none (0 : Nat) (0 : Nat) =
 Value.slice none (0 : Nat) (0 : Nat)) ∧
 (x.snd.fst = x.snd.fst ∧
 x.snd.snd.fst = x.snd.snd.fst) ∧
 a = a ∧ True) ∧
 Z
 (a, a_6, IntKind.wrap IntKind.i64 (a_7 + (1 : Int)),
 ()) ∧
 μ
 (a, a_6,
 IntKind.wrap IntKind.i64 (a_7 + (1 : Int)),
 ()) <
 μ (a, a_6, a_7, ())))) ∧
 (decide (a_7 < (↑(List.length a) : Int)) = false →
 ((0 : Int) ≤ a_6 ∧ a_6 < (↑(List.length a) : Int)) ∧
 ((0 : Int) ≤ a_6 ∧
 a_6 ≤
 (↑(List.length
 (List.take (Int.toNat a_6) a ++
 List.replicate (List.length a - Int.toNat a_6)
 ((0 : Int), (0 : Int), (0 : Int), ()))) :
 Int)) ∧
 List.take (Int.toNat a_6)
 (List.take (Int.toNat a_6) a ++
 List.replicate (List.length a - Int.toNat a_6)
 ((0 : Int), (0 : Int), (0 : Int), ())) =
 List.filter (inA x.snd.fst x.snd.snd.fst) (allA x.fst)))) ∧
 (decide ((List.getD (allA x.fst) (Int.toNat a) (Ty.dflt t36)).snd.fst > x.snd.snd.fst) =
 false →
 ((IntKind.wrap IntKind.i64 (a + (1 : Int)) = IntKind.wrap IntKind.i64 (a + (1 : Int)) ∧
 True ∧
 (True ∧ True) ∧
 (↑(List.length (allA x.fst)) : Int) = (↑(List.length (allA x.fst)) : Int) ∧
 True ∧
 (True ∧ True) ∧
 True ∧
 Value.slice none (0 : Nat) (0 : Nat) =
 Value.slice none (0 : Nat) (0 : Nat)) ∧
 (x.snd.fst = x.snd.fst ∧ x.snd.snd.fst = x.snd.snd.fst) ∧
 allA x.fst = allA x.fst ∧ True) ∧
 Z (IntKind.wrap IntKind.i64 (a + (1 : Int)), ()) ∧
 μ (IntKind.wrap IntKind.i64 (a + (1 : Int)), ()) < μ (a, ())))) ∧
 (decide (a < (↑(List.length (allA x.fst)) : Int)) = false →
 (((-1 : Int) == (-1 : Int)) = true →
 allA x.fst = List.filter (inA x.snd.fst x.snd.snd.fst) (allA x.fst)) ∧
 (((-1 : Int) == (-1 : Int)) = false →
 ((IntKind.wrap IntKind.i64 ((-1 : Int) + (1 : Int)) =
 IntKind.wrap IntKind.i64 ((-1 : Int) + (1 : Int)) ∧
 (-1 : Int) = (-1 : Int) ∧
 True ∧
 (True ∧ True) ∧
 Value.slice none (0 : Nat) (0 : Nat) = Value.slice none (0 : Nat) (0 : Nat)) ∧
 (x.snd.fst = x.snd.fst ∧ x.snd.snd.fst = x.snd.snd.fst) ∧
 allA x.fst = allA x.fst ∧ True) ∧
 ∃ (Z : List Anc × Int × Int × Unit → Prop),
 ∃ (μ : List Anc × Int × Int × Unit → Nat),
 Z (allA x.fst, (-1 : Int), IntKind.wrap IntKind.i64 ((-1 : Int) + (1 : Int)), ()) ∧
 ∀ (a : List Anc) (a_2 a_3 : Int),
 Z (a, a_2, a_3, ()) →
 (decide (a_3 < (↑(List.length a) : Int)) = true →
 ((0 : Int) ≤ a_3 ∧ a_3 < (↑(List.length a) : Int)) ∧
 (decide ((List.getD a (Int.toNat a_3) (Ty.dflt t36)).snd.fst < x.snd.fst) =
 true →
 ((!true) = true →
 ((0 : Int) ≤ a_2 ∧ a_2 < (↑(List.length a) : Int)) ∧
 ((IntKind.wrap IntKind.i64 (a_3 + (1 : Int)) =
 IntKind.wrap IntKind.i64 (a_3 + (1 : Int)) ∧
 IntKind.wrap IntKind.i64 (a_2 + (1 : Int)) =
 IntKind.wrap IntKind.i64 (a_2 + (1 : Int)) ∧
 True ∧
 (True ∧ True) ∧
 Value.slice none (0 : Nat) (0 : Nat) =
 Value.slice none (0 : Nat) (0 : Nat)) ∧
 (x.snd.fst = x.snd.fst ∧ x.snd.snd.fst = x.snd.snd.fst) ∧
 List.set a (Int.toNat a_2)
 (List.getD a (Int.toNat a_3) (Ty.dflt t36)) =
 List.set a (Int.toNat a_2)
 (List.getD a (Int.toNat a_3) (Ty.dflt t36)) ∧
 True) ∧
 Z
 (List.set a (Int.toNat a_2)
 (List.getD a (Int.toNat a_3) (Ty.dflt t36)),
 IntKind.wrap IntKind.i64 (a_2 + (1 : Int)),
 IntKind.wrap IntKind.i64 (a_3 + (1 : Int)), ()) ∧
 μ
 (List.set a (Int.toNat a_2)
 (List.getD a (Int.toNat a_3) (Ty.dflt t36)),
 IntKind.wrap IntKind.i64 (a_2 + (1 : Int)),
 IntKind.wrap IntKind.i64 (a_3 + (1 : Int)), ()) <
 μ (a, a_2, a_3, ())) ∧
 ((!true) = false →
 ((IntKind.wrap IntKind.i64 (a_3 + (1 : Int)) =
 IntKind.wrap IntKind.i64 (a_3 + (1 : Int)) ∧
 a_2 = a_2 ∧
 True ∧
 (True ∧ True) ∧
 Value.slice none (0 : Nat) (0 : Nat) =
 Value.slice none (0 : Nat) (0 : Nat)) ∧
 (x.snd.fst = x.snd.fst ∧ x.snd.snd.fst = x.snd.snd.fst) ∧
 a = a ∧ True) ∧
 Z (a, a_2, IntKind.wrap IntKind.i64 (a_3 + (1 : Int)), ()) ∧
 μ (a, a_2, IntKind.wrap IntKind.i64 (a_3 + (1 : Int)), ()) <
 μ (a, a_2, a_3, ()))) ∧
 (decide
 ((List.getD a (Int.toNat a_3) (Ty.dflt t36)).snd.fst < x.snd.fst) =
 false →
 ((!decide
 ((List.getD a (Int.toNat a_3) (Ty.dflt t36)).snd.fst >
 x.snd.snd.fst)) =
 true →
 ((0 : Int) ≤ a_2 ∧ a_2 < (↑(List.length a) : Int)) ∧
 ((IntKind.wrap IntKind.i64 (a_3 + (1 : Int)) =
 IntKind.wrap IntKind.i64 (a_3 + (1 : Int)) ∧
 IntKind.wrap IntKind.i64 (a_2 + (1 : Int)) =
 IntKind.wrap IntKind.i64 (a_2 + (1 : Int)) ∧
 True ∧
 (True ∧ True) ∧
 Value.slice none (0 : Nat) (0 : Nat) =
 Value.slice none (0 : Nat) (0 : Nat)) ∧
 (x.snd.fst = x.snd.fst ∧ x.snd.snd.fst = x.snd.snd.fst) ∧
 List.set a (Int.toNat a_2)
 (List.getD a (Int.toNat a_3) (Ty.dflt t36)) =
 List.set a (Int.toNat a_2)
 (List.getD a (Int.toNat a_3) (Ty.dflt t36)) ∧
 True) ∧
 Z
 (List.set a (Int.toNat a_2)
 (List.getD a (Int.toNat a_3) (Ty.dflt t36)),
 IntKind.wrap IntKind.i64 (a_2 + (1 : Int)),
 IntKind.wrap IntKind.i64 (a_3 + (1 : Int)), ()) ∧
 μ
 (List.set a (Int.toNat a_2)
 (List.getD a (Int.toNat a_3) (Ty.dflt t36)),
 IntKind.wrap IntKind.i64 (a_2 + (1 : Int)),
 IntKind.wrap IntKind.i64 (a_3 + (1 : Int)), ()) <
 μ (a, a_2, a_3, ())) ∧
 ((!decide
 ((List.getD a (Int.toNat a_3) (Ty.dflt t36)).snd.fst >
 x.snd.snd.fst)) =
 false →
 ((IntKind.wrap IntKind.i64 (a_3 + (1 : Int)) =
 IntKind.wrap IntKind.i64 (a_3 + (1 : Int)) ∧
 a_2 = a_2 ∧
 True ∧
 (True ∧ True) ∧
 Value.slice none (0 : Nat) (0 : Nat) =
 Value.slice none (0 : Nat) (0 : Nat)) ∧
 (x.snd.fst = x.snd.fst ∧ x.snd.snd.fst = x.snd.snd.fst) ∧
 a = a ∧ True) ∧
 Z (a, a_2, IntKind.wrap IntKind.i64 (a_3 + (1 : Int)), ()) ∧
 μ (a, a_2, IntKind.wrap IntKind.i64 (a_3 + (1 : Int)), ()) <
 μ (a, a_2, a_3, ())))) ∧
 (decide (a_3 < (↑(List.length a) : Int)) = false →
 ((0 : Int) ≤ a_2 ∧ a_2 < (↑(List.length a) : Int)) ∧
 ((0 : Int) ≤ a_2 ∧
 a_2 ≤
 (↑(List.length
 (List.take (Int.toNat a_2) a ++
 List.replicate (List.length a - Int.toNat a_2)
 ((0 : Int), (0 : Int), (0 : Int), ()))) :
 Int)) ∧
 List.take (Int.toNat a_2)
 (List.take (Int.toNat a_2) a ++
 List.replicate (List.length a - Int.toNat a_2)
 ((0 : Int), (0 : Int), (0 : Int), ())) =
 List.filter (inA x.snd.fst x.snd.snd.fst) (allA x.fst))))
theorem vcEq16 : fnVC E16 Try.f16 (bodyOf Try.f16) cBetween = vc16 := by kernel_rfl
/- fn O22 -/
def hsO22 : List (Nat × Nat × Hint) := []
def nmO22 : List Nat := [1000000005, 3000000023, 3000000025, 3000000038]
noncomputable def EO22 : Env := envR tab [] [] noGl hsO22 nmO22 []
def vcO22 : Prop :=
 ∀ (x : List Anc × Unit),
 List.length x.fst ≤ (10000 : Nat) →
 ∀ (c : Bool),
 (c = true → List.length x.fst = (0 : Nat)) →
 (c = true → [] = x.fst) ∧
 (c = false →
 ((0 : Nat) + List.length x.fst) * (24 : Nat) ≤ (140737488355328 : Nat) ∧
 (0 : Nat) + List.length x.fst ≤ maxLen ∧ [] ++ x.fst = x.fst)
theorem vcEqO22 : fnVCO EO22 Try.f22 (bodyOf Try.f22) cCloneO = vcO22 := by kernel_rfl
end Go.Fr.C11
