/-
  Conditions to be proved, function by function, printed by a program. Conditions: none.
-/
import Derived.Test.YtepnpmaoodljkaaDoorC13A
namespace Go.Fr.C13
open Go Go.Fr Go.Proofs
set_option maxRecDepth 100000

/- fn 10 -/
def hs10 : List (Nat × Nat × Hint) := [(0, 8, ⟨[.slot 30 t3, .cell 27 0 (mapT t3 t61), .rowC 26 1 900000001 t42 42], [0, 6, 7, 28, 29], [27, 26], []⟩)]
def nm10 : List Nat := [2000000025, 3000000025, 3000000031, 3000000051, 4000000018]
noncomputable def E10 : Env := envR tab [(23, cWrong), (24, cClean), (26, cOrder)] [] gl hs10 nm10 [(25, rSort)]
def vc10 : Prop :=
 ∀ (x : Int × List Inl × Unit),
 List.length x.snd.fst ≤ maxLen ∧ shortL x.snd.fst →
 (decide (x.fst < (0 : Int)) = true → (none, (1 : Int), ()) = newI x.fst x.snd.fst) ∧
 (decide (x.fst < (0 : Int)) = false →
 (decide (x.fst > (1099511627776 : Int)) = true → (none, (1 : Int), ()) = newI x.fst x.snd.fst) ∧
 (decide (x.fst > (1099511627776 : Int)) = false →
 (decide ((↑(List.length x.snd.fst) : Int) > (60 : Int)) = true →
 (none, (5 : Int), ()) = newI x.fst x.snd.fst) ∧
 (decide ((↑(List.length x.snd.fst) : Int) > (60 : Int)) = false →
 (((0 : Int) = (0 : Int) ∧
 x.fst = x.fst ∧
 True ∧
 True ∧
 x.snd.fst = x.snd.fst ∧
 (↑(List.length x.snd.fst) : Int) = (↑(List.length x.snd.fst) : Int)) ∧
 ((([] : List (Int × Unit × Unit)) = [] ∧ True) ∧ x.fst = x.fst ∧ True) ∧ True ∧ True) ∧
 ∃ (Z :
 Int × List (Int × Unit × Unit) × List Inl × Unit → Prop),
 ∃ (μ :
 Int × List (Int × Unit × Unit) × List Inl × Unit → Nat),
 Z ((0 : Int), [], [], ()) ∧
 ∀ (a : Int) (a_1 : List (Int × Unit × Unit))
 (a_2 : List Inl),
 Z (a, a_1, a_2, ()) →
 (decide (a < (↑(List.length x.snd.fst) : Int)) = true →
 ((0 : Int) ≤ a ∧ a < (↑(List.length x.snd.fst) : Int)) ∧
 ByteArray.size (txt (List.getD x.snd.fst (Int.toNat a) (Ty.dflt t42))) ≤ maxLen ∧
 ((wrongI x.fst (List.getD x.snd.fst (Int.toNat a) (Ty.dflt t42)) != (0 : Int)) =
 true →
 (none, wrongI x.fst (List.getD x.snd.fst (Int.toNat a) (Ty.dflt t42)), ()) =
 newI x.fst x.snd.fst) ∧
 ((wrongI x.fst (List.getD x.snd.fst (Int.toNat a) (Ty.dflt t42)) != (0 : Int)) =
 false →
 (Option.isSome
 (mget t3 t61 (List.getD x.snd.fst (Int.toNat a) (Ty.dflt t42)).fst
 a_1) =
 true →
 (none, (8 : Int), ()) = newI x.fst x.snd.fst) ∧
 (Option.isSome
 (mget t3 t61 (List.getD x.snd.fst (Int.toNat a) (Ty.dflt t42)).fst
 a_1) =
 false →
 mget t3 t61 (List.getD x.snd.fst (Int.toNat a) (Ty.dflt t42)).fst a_1 =
 none ∧
 ByteArray.size
 (List.getD x.snd.fst (Int.toNat a)
 (Ty.dflt t42)).snd.snd.snd.snd.fst ≤
 (100000000 : Nat) ∧
 ((List.length a_2 +
 List.length
 [((List.getD x.snd.fst (Int.toNat a) (Ty.dflt t42)).fst,
 (List.getD x.snd.fst (Int.toNat a)
 (Ty.dflt t42)).snd.fst,
 (List.getD x.snd.fst (Int.toNat a)
 (Ty.dflt t42)).snd.snd.fst,
 (List.getD x.snd.fst (Int.toNat a)
 (Ty.dflt t42)).snd.snd.snd.fst,
 clean
 (List.getD x.snd.fst (Int.toNat a)
 (Ty.dflt t42)).snd.snd.snd.snd.fst,
 ())]) *
 (48 : Nat) ≤
 (140737488355328 : Nat) ∧
 List.length a_2 +
 List.length
 [((List.getD x.snd.fst (Int.toNat a) (Ty.dflt t42)).fst,
 (List.getD x.snd.fst (Int.toNat a)
 (Ty.dflt t42)).snd.fst,
 (List.getD x.snd.fst (Int.toNat a)
 (Ty.dflt t42)).snd.snd.fst,
 (List.getD x.snd.fst (Int.toNat a)
 (Ty.dflt t42)).snd.snd.snd.fst,
 clean
 (List.getD x.snd.fst (Int.toNat a)
 (Ty.dflt t42)).snd.snd.snd.snd.fst,
 ())] ≤
 maxLen ∧
 ((IntKind.wrap IntKind.i64 (a + (1 : Int)) =
 IntKind.wrap IntKind.i64 (a + (1 : Int)) ∧
 x.fst = x.fst ∧
 True ∧
 True ∧
 x.snd.fst = x.snd.fst ∧
 (↑(List.length x.snd.fst) : Int) =
 (↑(List.length x.snd.fst) : Int)) ∧
 ((a_1 ++
 [((List.getD x.snd.fst (Int.toNat a)
 (Ty.dflt t42)).fst,
 (), ())] =
 a_1 ++
 [((List.getD x.snd.fst (Int.toNat a)
 (Ty.dflt t42)).fst,
 (), ())] ∧
 True) ∧
 x.fst = x.fst ∧ True) ∧
 a_2 ++
 [((List.getD x.snd.fst (Int.toNat a)
 (Ty.dflt t42)).fst,
 (List.getD x.snd.fst (Int.toNat a)
 (Ty.dflt t42)).snd.fst,
 (List.getD x.snd.fst (Int.toNat a)
 (Ty.dflt t42)).snd.snd.fst,
 (List.getD x.snd.fst (Int.toNat a)
 (Ty.dflt t42)).snd.snd.snd.fst,
 clean
 (List.getD x.snd.fst (Int.toNat a)
 (Ty.dflt t42)).snd.snd.snd.snd.fst,
 ())] =
 a_2 ++
 [((List.getD x.snd.fst (Int.toNat a)
 (Ty.dflt t42)).fst,
 (List.getD x.snd.fst (Int.toNat a)
 (Ty.dflt t42)).snd.fst,
 (List.getD x.snd.fst (Int.toNat a)
 (Ty.dflt t42)).snd.snd.fst,
 (List.getD x.snd.fst (Int.toNat a)
 (Ty.dflt t42)).snd.snd.snd.fst,
 clean
 (List.getD x.snd.fst (Int.toNat a)
 (Ty.dflt t42)).snd.snd.snd.snd.fst,
 ())] ∧
 True) ∧
 Z
 (IntKind.wrap IntKind.i64 (a + (1 : Int)),
 a_1 ++
 [((List.getD x.snd.fst (Int.toNat a) (Ty.dflt t42)).fst,
 (), ())],
 a_2 ++
 [((List.getD x.snd.fst (Int.toNat a) (Ty.dflt t42)).fst,
 (List.getD x.snd.fst (Int.toNat a)
 (Ty.dflt t42)).snd.fst,
 (List.getD x.snd.fst (Int.toNat a)
 (Ty.dflt t42)).snd.snd.fst,
 (List.getD x.snd.fst (Int.toNat a)
 (Ty.dflt t42)).snd.snd.snd.fst,
 clean
 (List.getD x.snd.fst (Int.toNat a)
 (Ty.dflt t42)).snd.snd.snd.snd.fst,
 ())],
 ()) ∧
 μ
 (IntKind.wrap IntKind.i64 (a + (1 : Int)),
 a_1 ++
 [((List.getD x.snd.fst (Int.toNat a)
 (Ty.dflt t42)).fst,
 (), ())],
 a_2 ++
 [((List.getD x.snd.fst (Int.toNat a)
 (Ty.dflt t42)).fst,
 (List.getD x.snd.fst (Int.toNat a)
 (Ty.dflt t42)).snd.fst,
 (List.getD x.snd.fst (Int.toNat a)
 (Ty.dflt t42)).snd.snd.fst,
 (List.getD x.snd.fst (Int.toNat a)
 (Ty.dflt t42)).snd.snd.snd.fst,
 clean
 (List.getD x.snd.fst (Int.toNat a)
 (Ty.dflt t42)).snd.snd.snd.snd.fst,
 ())],
 ()) <
 μ (a, a_1, a_2, ())) ∧
 ((List.length a_2 +
 List.length
 [((List.getD x.snd.fst (Int.toNat a) (Ty.dflt t42)).fst,
 (List.getD x.snd.fst (Int.toNat a)
 (Ty.dflt t42)).snd.fst,
 (List.getD x.snd.fst (Int.toNat a)
 (Ty.dflt t42)).snd.snd.fst,
 (List.getD x.snd.fst (Int.toNat a)
 (Ty.dflt t42)).snd.snd.snd.fst,
 clean
 (List.getD x.snd.fst (Int.toNat a)
 (Ty.dflt t42)).snd.snd.snd.snd.fst,
 ())]) *
 (48 : Nat) ≤
 (140737488355328 : Nat) ∧
 List.length a_2 +
 List.length
 [((List.getD x.snd.fst (Int.toNat a) (Ty.dflt t42)).fst,
 (List.getD x.snd.fst (Int.toNat a)
 (Ty.dflt t42)).snd.fst,
 (List.getD x.snd.fst (Int.toNat a)
 (Ty.dflt t42)).snd.snd.fst,
 (List.getD x.snd.fst (Int.toNat a)
 (Ty.dflt t42)).snd.snd.snd.fst,
 clean
 (List.getD x.snd.fst (Int.toNat a)
 (Ty.dflt t42)).snd.snd.snd.snd.fst,
 ())] ≤
 maxLen ∧
 ((IntKind.wrap IntKind.i64 (a + (1 : Int)) =
 IntKind.wrap IntKind.i64 (a + (1 : Int)) ∧
 x.fst = x.fst ∧
 True ∧
 True ∧
 x.snd.fst = x.snd.fst ∧
 (↑(List.length x.snd.fst) : Int) =
 (↑(List.length x.snd.fst) : Int)) ∧
 ((a_1 ++
 [((List.getD x.snd.fst (Int.toNat a)
 (Ty.dflt t42)).fst,
 (), ())] =
 a_1 ++
 [((List.getD x.snd.fst (Int.toNat a)
 (Ty.dflt t42)).fst,
 (), ())] ∧
 True) ∧
 x.fst = x.fst ∧ True) ∧
 a_2 ++
 [((List.getD x.snd.fst (Int.toNat a)
 (Ty.dflt t42)).fst,
 (List.getD x.snd.fst (Int.toNat a)
 (Ty.dflt t42)).snd.fst,
 (List.getD x.snd.fst (Int.toNat a)
 (Ty.dflt t42)).snd.snd.fst,
 (List.getD x.snd.fst (Int.toNat a)
 (Ty.dflt t42)).snd.snd.snd.fst,
 clean
 (List.getD x.snd.fst (Int.toNat a)
 (Ty.dflt
 t42)).snd.snd.snd.snd.fst,
 ())] =
 a_2 ++
 [((List.getD x.snd.fst (Int.toNat a)
 (Ty.dflt t42)).fst,
 (List.getD x.snd.fst (Int.toNat a)
 (Ty.dflt t42)).snd.fst,
 (List.getD x.snd.fst (Int.toNat a)
 (Ty.dflt t42)).snd.snd.fst,
 (List.getD x.snd.fst (Int.toNat a)
 (Ty.dflt t42)).snd.snd.snd.fst,
 clean
 (List.getD x.snd.fst (Int.toNat a)
 (Ty.dflt
 t42)).snd.snd.snd.snd.fst,
 ())] ∧
 True) ∧
 Z
 (IntKind.wrap IntKind.i64 (a + (1 : Int)),
 a_1 ++
 [((List.getD x.snd.fst (Int.toNat a)
 (Ty.dflt t42)).fst,
 (), ())],
 a_2 ++
 [((List.getD x.snd.fst (Int.toNat a)
 (Ty.dflt t42)).fst,
 (List.getD x.snd.fst (Int.toNat a)
 (Ty.dflt t42)).snd.fst,
 (List.getD x.snd.fst (Int.toNat a)
 (Ty.dflt t42)).snd.snd.fst,
 (List.getD x.snd.fst (Int.toNat a)
 (Ty.dflt t42)).snd.snd.snd.fst,
 clean
 (List.getD x.snd.fst (Int.toNat a)
 (Ty.dflt t42)).snd.snd.snd.snd.fst,
 ())],
 ()) ∧
 μ
 (IntKind.wrap IntKind.i64 (a + (1 : Int)),
 a_1 ++
 [((List.getD x.snd.fst (Int.toNat a)
 (Ty.dflt t42)).fst,
 (), ())],
 a_2 ++
 [((List.getD x.snd.fst (Int.toNat a)
 (Ty.dflt t42)).fst,
 (List.getD x.snd.fst (Int.toNat a)
 (Ty.dflt t42)).snd.fst,
 (List.getD x.snd.fst (Int.toNat a)
 (Ty.dflt t42)).snd.snd.fst,
 (List.getD x.snd.fst (Int.toNat a)
 (Ty.dflt t42)).snd.snd.snd.fst,
 clean
 (List.getD x.snd.fst (Int.toNat a)
 (Ty.dflt
 t42)).snd.snd.snd.snd.fst,
 ())],
 ()) <
 μ (a, a_1, a_2, ())) ∧
 (List.length a_2 +
 List.length
 [((List.getD x.snd.fst (Int.toNat a) (Ty.dflt t42)).fst,
 (List.getD x.snd.fst (Int.toNat a)
 (Ty.dflt t42)).snd.fst,
 (List.getD x.snd.fst (Int.toNat a)
 (Ty.dflt t42)).snd.snd.fst,
 (List.getD x.snd.fst (Int.toNat a)
 (Ty.dflt t42)).snd.snd.snd.fst,
 clean
 (List.getD x.snd.fst (Int.toNat a)
 (Ty.dflt t42)).snd.snd.snd.snd.fst,
 ())]) *
 (48 : Nat) ≤
 (140737488355328 : Nat) ∧
 List.length a_2 +
 List.length
 [((List.getD x.snd.fst (Int.toNat a) (Ty.dflt t42)).fst,
 (List.getD x.snd.fst (Int.toNat a)
 (Ty.dflt t42)).snd.fst,
 (List.getD x.snd.fst (Int.toNat a)
 (Ty.dflt t42)).snd.snd.fst,
 (List.getD x.snd.fst (Int.toNat a)
 (Ty.dflt t42)).snd.snd.snd.fst,
 clean
 (List.getD x.snd.fst (Int.toNat a)
 (Ty.dflt t42)).snd.snd.snd.snd.fst,
 ())] ≤
 maxLen ∧
 ((IntKind.wrap IntKind.i64 (a + (1 : Int)) =
 IntKind.wrap IntKind.i64 (a + (1 : Int)) ∧
 x.fst = x.fst ∧
 True ∧
 True ∧
 x.snd.fst = x.snd.fst ∧
 (↑(List.length x.snd.fst) : Int) =
 (↑(List.length x.snd.fst) : Int)) ∧
 ((a_1 ++
 [((List.getD x.snd.fst (Int.toNat a)
 (Ty.dflt t42)).fst,
 (), ())] =
 a_1 ++
 [((List.getD x.snd.fst (Int.toNat a)
 (Ty.dflt t42)).fst,
 (), ())] ∧
 True) ∧
 x.fst = x.fst ∧ True) ∧
 a_2 ++
 [((List.getD x.snd.fst (Int.toNat a)
 (Ty.dflt t42)).fst,
 (List.getD x.snd.fst (Int.toNat a)
 (Ty.dflt t42)).snd.fst,
 (List.getD x.snd.fst (Int.toNat a)
 (Ty.dflt t42)).snd.snd.fst,
 (List.getD x.snd.fst (Int.toNat a)
 (Ty.dflt t42)).snd.snd.snd.fst,
 clean
 (List.getD x.snd.fst (Int.toNat a)
 (Ty.dflt
 t42)).snd.snd.snd.snd.fst,
 ())] =
 a_2 ++
 [((List.getD x.snd.fst (Int.toNat a)
 (Ty.dflt t42)).fst,
 (List.getD x.snd.fst (Int.toNat a)
 (Ty.dflt t42)).snd.fst,
 (List.getD x.snd.fst (Int.toNat a)
 (Ty.dflt t42)).snd.snd.fst,
 (List.getD x.snd.fst (Int.toNat a)
 (Ty.dflt t42)).snd.snd.snd.fst,
 clean
 (List.getD x.snd.fst (Int.toNat a)
 (Ty.dflt
 t42)).snd.snd.snd.snd.fst,
 ())] ∧
 True) ∧
 Z
 (IntKind.wrap IntKind.i64 (a + (1 : Int)),
 a_1 ++
 [((List.getD x.snd.fst (Int.toNat a)
 (Ty.dflt t42)).fst,
 (), ())],
 a_2 ++
 [((List.getD x.snd.fst (Int.toNat a)
 (Ty.dflt t42)).fst,
 (List.getD x.snd.fst (Int.toNat a)
 (Ty.dflt t42)).snd.fst,
 (List.getD x.snd.fst (Int.toNat a)
 (Ty.dflt t42)).snd.snd.fst,
 (List.getD x.snd.fst (Int.toNat a)
 (Ty.dflt t42)).snd.snd.snd.fst,
 clean
 (List.getD x.snd.fst (Int.toNat a)
 (Ty.dflt t42)).snd.snd.snd.snd.fst,
 ())],
 ()) ∧
 μ
 (IntKind.wrap IntKind.i64 (a + (1 : Int)),
 a_1 ++
 [((List.getD x.snd.fst (Int.toNat a)
 (Ty.dflt t42)).fst,
 (), ())],
 a_2 ++
 [((List.getD x.snd.fst (Int.toNat a)
 (Ty.dflt t42)).fst,
 (List.getD x.snd.fst (Int.toNat a)
 (Ty.dflt t42)).snd.fst,
 (List.getD x.snd.fst (Int.toNat a)
 (Ty.dflt t42)).snd.snd.fst,
 (List.getD x.snd.fst (Int.toNat a)
 (Ty.dflt t42)).snd.snd.snd.fst,
 clean
 (List.getD x.snd.fst (Int.toNat a)
 (Ty.dflt
 t42)).snd.snd.snd.snd.fst,
 ())],
 ()) <
 μ (a, a_1, a_2, ())))) ∧
 (decide (a < (↑(List.length x.snd.fst) : Int)) = false →
 List.length a_2 ≤ (100000 : Nat) ∧
 ∀ (ys : List Inl),
 List.Perm ys a_2 ∧ List.Pairwise (fun (a b : Inl) ↦ ¬cmpL b a < (0 : Int)) ys →
 (some (x.fst, ys, ()), (0 : Int), ()) = newI x.fst x.snd.fst))))
theorem vcEq10 : fnVC E10 Tryd.f10 (bodyOf Tryd.f10) cNew = vc10 := by kernel_rfl
/- fn 14 -/
def hs14 : List (Nat × Nat × Hint) := [(320011, 5, ⟨[.rowN 8 t42 42, .slot 320016 t3, .slot 320017 t3], [320011, 320012, 6], [4, 5], []⟩),
  (840053, 2, ⟨[.slot 840061 t3], [840053, 840054, 840060, 320011, 320012, 320016, 6], [320018, 4, 5], [8]⟩)]
def nm14 : List Nat := [2000320049, 2000320052, 3000000025, 3000000031, 3000000051]
noncomputable def E14 : Env := env tab [(18, cAllO)] [(32, Tryd.f32), (31, Tryd.f31), (51, Tryd.f51)] gl hs14 nm14
def vc14 : Prop :=
 ∀ (x : Option (Int × List Inl × Unit) × Int × Int × Unit),
 List.length (allI x.fst) ≤ (10000 : Nat) →
 List.length (allI x.fst) ≤ (10000 : Nat) ∧
 (((0 : Int) = (0 : Int) ∧
 True ∧
 (True ∧ True) ∧
 (↑(List.length (allI x.fst)) : Int) = (↑(List.length (allI x.fst)) : Int) ∧
 True ∧
 (True ∧ True) ∧
 True ∧ Value.slice none (0 : Nat) (0 : Nat) = Value.slice none (0 : Nat) (0 : Nat)) ∧
 (x.snd.fst = x.snd.fst ∧ x.snd.snd.fst = x.snd.snd.fst) ∧ allI x.fst = allI x.fst ∧ True) ∧
 ∃ (Z : Int × Unit → Prop),
 ∃ (μ : Int × Unit → Nat),
 Z ((0 : Int), ()) ∧
 ∀ (a : Int),
 Z (a, ()) →
 (decide (a < (↑(List.length (allI x.fst)) : Int)) = true →
 ((0 : Int) ≤ a ∧ a < (↑(List.length (allI x.fst)) : Int)) ∧
 (decide ((List.getD (allI x.fst) (Int.toNat a) (Ty.dflt t42)).snd.fst < x.snd.fst) = true →
 ((a == (-1 : Int)) = true →
 allI x.fst = List.filter (inI x.snd.fst x.snd.snd.fst) (allI x.fst)) ∧
 ((a == (-1 : Int)) = false →
 ((IntKind.wrap IntKind.i64 (a + (1 : Int)) = IntKind.wrap IntKind.i64 (a + (1 : Int)) ∧
 a = a ∧
 True ∧
 (True ∧ True) ∧
 Value.slice none (0 : Nat) (0 : Nat) =
 Value.slice none (0 : Nat) (0 : Nat)) ∧
 (x.snd.fst = x.snd.fst ∧ x.snd.snd.fst = x.snd.snd.fst) ∧
 allI x.fst = allI x.fst ∧ True) ∧
 ∃ (Z : List Inl × Int × Int × Unit → Prop),
 ∃ (μ : List Inl × Int × Int × Unit → Nat),
 Z (allI x.fst, a, IntKind.wrap IntKind.i64 (a + (1 : Int)), ()) ∧
 ∀ (a : List Inl) (a_5 a_6 : Int),
 Z (a, a_5, a_6, ()) →
 (decide (a_6 < (↑(List.length a) : Int)) = true →
 ((0 : Int) ≤ a_6 ∧ a_6 < (↑(List.length a) : Int)) ∧
 (decide
 ((List.getD a (Int.toNat a_6) (Ty.dflt t42)).snd.fst <
 x.snd.fst) =
 true →
 ((!true) = true →
 ((0 : Int) ≤ a_5 ∧ a_5 < (↑(List.length a) : Int)) ∧
 ((IntKind.wrap IntKind.i64 (a_6 + (1 : Int)) =
 IntKind.wrap IntKind.i64 (a_6 + (1 : Int)) ∧
 IntKind.wrap IntKind.i64 (a_5 + (1 : Int)) =
 IntKind.wrap IntKind.i64 (a_5 + (1 : Int)) ∧
 True ∧
 (True ∧ True) ∧
 Value.slice none (0 : Nat) (0 : Nat) =
 Value.slice none (0 : Nat) (0 : Nat)) ∧
 (x.snd.fst = x.snd.fst ∧
 x.snd.snd.fst = x.snd.snd.fst) ∧
 List.set a (Int.toNat a_5)
 (List.getD a (Int.toNat a_6) (Ty.dflt t42)) =
 List.set a (Int.toNat a_5)
 (List.getD a (Int.toNat a_6) (Ty.dflt t42)) ∧
 True) ∧
 Z
 (List.set a (Int.toNat a_5)
 (List.getD a (Int.toNat a_6) (Ty.dflt t42)),
 IntKind.wrap IntKind.i64 (a_5 + (1 : Int)),
 IntKind.wrap IntKind.i64 (a_6 + (1 : Int)), ()) ∧
 μ
 (List.set a (Int.toNat a_5)
 (List.getD a (Int.toNat a_6) (Ty.dflt t42)),
 IntKind.wrap IntKind.i64 (a_5 + (1 : Int)),
 IntKind.wrap IntKind.i64 (a_6 + (1 : Int)), ()) <
 μ (a, a_5, a_6, ())) ∧
 ((!true) = false →
 ((IntKind.wrap IntKind.i64 (a_6 + (1 : Int)) =
 IntKind.wrap IntKind.i64 (a_6 + (1 : Int)) ∧
 a_5 = a_5 ∧
 True ∧
 (True ∧ True) ∧
 Value.slice none (0 : Nat) (0 : Nat) =
 Value.slice none (0 : Nat) (0 : Nat)) ∧
 (x.snd.fst = x.snd.fst ∧ x.snd.snd.fst = x.snd.snd.fst) ∧
 a = a ∧ True) ∧
 Z (a, a_5, IntKind.wrap IntKind.i64 (a_6 + (1 : Int)), ()) ∧
 μ
 (a, a_5, IntKind.wrap IntKind.i64 (a_6 + (1 : Int)),
 ()) <
 μ (a, a_5, a_6, ()))) ∧
 (decide
 ((List.getD a (Int.toNat a_6) (Ty.dflt t42)).snd.fst <
 x.snd.fst) =
 false →
 ((!decide
 ((List.getD a (Int.toNat a_6) (Ty.dflt t42)).snd.fst >
 x.snd.snd.fst)) =
 true →
 ((0 : Int) ≤ a_5 ∧ a_5 < (↑(List.length a) : Int)) ∧
 ((IntKind.wrap IntKind.i64 (a_6 + (1 : Int)) =
 IntKind.wrap IntKind.i64 (a_6 + (1 : Int)) ∧
 IntKind.wrap IntKind.i64 (a_5 + (1 : Int)) =
 IntKind.wrap IntKind.i64 (a_5 + (1 : Int)) ∧
 True ∧
 (True ∧ True) ∧
 Value.slice none (0 : Nat) (0 : Nat) =
 Value.slice none (0 : Nat) (0 : Nat)) ∧
 (x.snd.fst = x.snd.fst ∧
 x.snd.snd.fst = x.snd.snd.fst) ∧
 List.set a (Int.toNat a_5)
 (List.getD a (Int.toNat a_6) (Ty.dflt t42)) =
 List.set a (Int.toNat a_5)
 (List.getD a (Int.toNat a_6) (Ty.dflt t42)) ∧
 True) ∧
 Z
 (List.set a (Int.toNat a_5)
 (List.getD a (Int.toNat a_6) (Ty.dflt t42)),
 IntKind.wrap IntKind.i64 (a_5 + (1 : Int)),
 IntKind.wrap IntKind.i64 (a_6 + (1 : Int)), ()) ∧
 μ
 (List.set a (Int.toNat a_5)
 (List.getD a (Int.toNat a_6) (Ty.dflt t42)),
 IntKind.wrap IntKind.i64 (a_5 + (1 : Int)),
 IntKind.wrap IntKind.i64 (a_6 + (1 : Int)), ()) <
 μ (a, a_5, a_6, ())) ∧
 ((!decide
 ((List.getD a (Int.toNat a_6) (Ty.dflt t42)).snd.fst >
 x.snd.snd.fst)) =
 false →
 ((IntKind.wrap IntKind.i64 (a_6 + (1 : Int)) =
 IntKind.wrap IntKind.i64 (a_6 + (1 : Int)) ∧
 a_5 = a_5 ∧
 True ∧
 (True ∧ True) ∧
 Value.slice none (0 : Nat) (0 : Nat) =
 Value.slice none (0 : Nat) (0 : Nat)) ∧
 (x.snd.fst = x.snd.fst ∧ x.snd.snd.fst = x.snd.snd.fst) ∧
 a = a ∧ True) ∧
 Z (a, a_5, IntKind.wrap IntKind.i64 (a_6 + (1 : Int)), ()) ∧
 μ
 (a, a_5, IntKind.wrap IntKind.i64 (a_6 + (1 : Int)),
 ()) <
 μ (a, a_5, a_6, ())))) ∧
 (decide (a_6 < (↑(List.length a) : Int)) = false →
 ((0 : Int) ≤ a_5 ∧ a_5 < (↑(List.length a) : Int)) ∧
 ((0 : Int) ≤ a_5 ∧
 a_5 ≤
 (↑(List.length
 (List.take (Int.toNat a_5) a ++
 List.replicate (List.length a - Int.toNat a_5)
 ((0 : Int), (0 : Int), (0 : Int), (0 : Int),
 ByteArray.empty, ()))) :
 Int)) ∧
 List.take (Int.toNat a_5)
 (List.take (Int.toNat a_5) a ++
 List.replicate (List.length a - Int.toNat a_5)
 ((0 : Int), (0 : Int), (0 : Int), (0 : Int),
 ByteArray.empty, ())) =
 List.filter (inI x.snd.fst x.snd.snd.fst) (allI x.fst)))) ∧
 (decide ((List.getD (allI x.fst) (Int.toNat a) (Ty.dflt t42)).snd.fst < x.snd.fst) = false →
 (decide ((List.getD (allI x.fst) (Int.toNat a) (Ty.dflt t42)).snd.fst > x.snd.snd.fst) =
 true →
 ((a == (-1 : Int)) = true →
 allI x.fst = List.filter (inI x.snd.fst x.snd.snd.fst) (allI x.fst)) ∧
 ((a == (-1 : Int)) = false →
 ((IntKind.wrap IntKind.i64 (a + (1 : Int)) =
 IntKind.wrap IntKind.i64 (a + (1 : Int)) ∧
 a = a ∧
 True ∧
 (True ∧ True) ∧
 Value.slice none (0 : Nat) (0 : Nat) =
 Value.slice none (0 : Nat) (0 : Nat)) ∧
 (x.snd.fst = x.snd.fst ∧ x.snd.snd.fst = x.snd.snd.fst) ∧
 allI x.fst = allI x.fst ∧ True) ∧
 ∃ (Z : List Inl × Int × Int × Unit → Prop),
 ∃ (μ :
 List Inl × Int × Int × Unit → Nat),
 Z (allI x.fst, a, IntKind.wrap IntKind.i64 (a + (1 : Int)), ()) ∧
 ∀ (a : List Inl) (a_6 a_7 : Int),
 Z (a, a_6, a_7, ()) →
 (decide (a_7 < (↑(List.length a) : Int)) = true →
 ((0 : Int) ≤ a_7 ∧ a_7 < (↑(List.length a) : Int)) ∧
 (decide
 ((List.getD a (Int.toNat a_7) (Ty.dflt t42)).snd.fst <
 x.snd.fst) =
 true →
 ((!true) = true →
 ((0 : Int) ≤ a_6 ∧ a_6 < (↑(List.length a) : Int)) ∧
 ((IntKind.wrap IntKind.i64 (a_7 + (1 : Int)) =
 IntKind.wrap IntKind.i64 (a_7 + (1 : Int)) ∧
 IntKind.wrap IntKind.i64 (a_6 + (1 : Int)) =
 IntKind.wrap IntKind.i64 (a_6 + (1 : Int)) ∧
 True ∧
 (True ∧ True) ∧
 Value.slice none (0 : Nat) (0 : Nat) =
 Value.slice none (0 : Nat) (0 : Nat)) ∧
 (x.snd.fst = x.snd.fst ∧
 x.snd.snd.fst = x.snd.snd.fst) ∧
 List.set a (Int.toNat a_6)
 (List.getD a (Int.toNat a_7)
 (Ty.dflt t42)) =
 List.set a (Int.toNat a_6)
 (List.getD a (Int.toNat a_7)
 (Ty.dflt t42)) ∧
 True) ∧
 Z
 (List.set a (Int.toNat a_6)
 (List.getD a (Int.toNat a_7) (Ty.dflt t42)),
 IntKind.wrap IntKind.i64 (a_6 + (1 : Int)),
 IntKind.wrap IntKind.i64 (a_7 + (1 : Int)),
 ()) ∧
 μ
 (List.set a (Int.toNat a_6)
 (List.getD a (Int.toNat a_7) (Ty.dflt t42)),
 IntKind.wrap IntKind.i64 (a_6 + (1 : Int)),
 IntKind.wrap IntKind.i64 (a_7 + (1 : Int)),
 ()) <
 μ (a, a_6, a_7, ())) ∧
 ((!true) = false →
 ((IntKind.wrap IntKind.i64 (a_7 + (1 : Int)) =
 IntKind.wrap IntKind.i64 (a_7 + (1 : Int)) ∧
 a_6 = a_6 ∧
 True ∧
 (True ∧ True) ∧
 Value.slice none (0 : Nat) (0 : Nat) =
 Value.slice none (0 : Nat) (0 : Nat)) ∧
 (x.snd.fst = x.snd.fst ∧
 x.snd.snd.fst = x.snd.snd.fst) ∧
 a = a ∧ True) ∧
 Z
 (a, a_6, IntKind.wrap IntKind.i64 (a_7 + (1 : Int)),
 ()) ∧
 μ
 (a, a_6,
 IntKind.wrap IntKind.i64 (a_7 + (1 : Int)),
 ()) <
 μ (a, a_6, a_7, ()))) ∧
 (decide
 ((List.getD a (Int.toNat a_7) (Ty.dflt t42)).snd.fst <
 x.snd.fst) =
 false →
 ((!decide
 ((List.getD a (Int.toNat a_7)
 (Ty.dflt t42)).snd.fst >
 x.snd.snd.fst)) =
 true →
 ((0 : Int) ≤ a_6 ∧ a_6 < (↑(List.length a) : Int)) ∧
 ((IntKind.wrap IntKind.i64 (a_7 + (1 : Int)) =
 IntKind.wrap IntKind.i64 (a_7 + (1 : Int)) ∧
 IntKind.wrap IntKind.i64 (a_6 + (1 : Int)) =
 IntKind.wrap IntKind.i64 (a_6 + (1 : Int)) ∧
 True ∧
 (True ∧ True) ∧
 Value.slice none (0 : Nat) (0 : Nat) =
 Value.slice none (0 : Nat) (0 : Nat)) ∧
 (x.snd.fst = x.snd.fst ∧
 x.snd.snd.fst = x.snd.snd.fst) ∧
 List.set a (Int.toNat a_6)
 (List.getD a (Int.toNat a_7)
 (Ty.dflt t42)) =
 List.set a (Int.toNat a_6)
 (List.getD a (Int.toNat a_7)
 (Ty.dflt t42)) ∧
 True) ∧
 Z
 (List.set a (Int.toNat a_6)
 (List.getD a (Int.toNat a_7) (Ty.dflt t42)),
 IntKind.wrap IntKind.i64 (a_6 + (1 : Int)),
 IntKind.wrap IntKind.i64 (a_7 + (1 : Int)),
 ()) ∧
 μ
 (List.set a (Int.toNat a_6)
 (List.getD a (Int.toNat a_7) (Ty.dflt t42)),
 IntKind.wrap IntKind.i64 (a_6 + (1 : Int)),
 IntKind.wrap IntKind.i64 (a_7 + (1 : Int)),
 ()) <
 μ (a, a_6, a_7, ())) ∧
 ((!decide
 ((List.getD a (Int.toNat a_7)
 (Ty.dflt t42)).snd.fst >
 x.snd.snd.fst)) =
 false →
 ((IntKind.wrap IntKind.i64 (a_7 + (1 : Int)) =
 IntKind.wrap IntKind.i64 (a_7 + (1 : Int)) ∧
 a_6 = a_6 ∧
 True ∧
 (True ∧ True) ∧
 Value.slice none (0 : Nat) (0 : Nat) =
 Value.slice none (0 : Nat) (0 : Nat)) ∧
 (x.snd.fst = x.snd.fst ∧
 x.snd.snd.fst = x.snd.snd.fst) ∧
 a = a ∧ True) ∧
 Z
 (a, a_6, IntKind.wrap IntKind.i64 (a_7 + (1 : Int)),
 ()) ∧
 μ
 (a, a_6,
 IntKind.wrap IntKind.i64 (a_7 + (1 : Int)),
 ()) <
 μ (a, a_6, a_7, ())))) ∧
 (decide (a_7 < (↑(List.length a) : Int)) = false →
 ((0 : Int) ≤ a_6 ∧ a_6 < (↑(List.length a) : Int)) ∧
 ((0 : Int) ≤ a_6 ∧
 a_6 ≤
 (↑(List.length
 (List.take (Int.toNat a_6) a ++
 List.replicate (List.length a - Int.toNat a_6)
 ((0 : Int), (0 : Int), (0 : Int), (0 : Int),
 ByteArray.empty, ()))) :
 Int)) ∧
 List.take (Int.toNat a_6)
 (List.take (Int.toNat a_6) a ++
 List.replicate (List.length a - Int.toNat a_6)
 ((0 : Int), (0 : Int), (0 : Int), (0 : Int),
 ByteArray.empty, ())) =
 List.filter (inI x.snd.fst x.snd.snd.fst) (allI x.fst)))) ∧
 (decide ((List.getD (allI x.fst) (Int.toNat a) (Ty.dflt t42)).snd.fst > x.snd.snd.fst) =
 false →
 ((IntKind.wrap IntKind.i64 (a + (1 : Int)) = IntKind.wrap IntKind.i64 (a + (1 : Int)) ∧
 True ∧
 (True ∧ True) ∧
 (↑(List.length (allI x.fst)) : Int) = (↑(List.length (allI x.fst)) : Int) ∧
 True ∧
 (True ∧ True) ∧
 True ∧
 Value.slice none (0 : Nat) (0 : Nat) =
 Value.slice none (0 : Nat) (0 : Nat)) ∧
 (x.snd.fst = x.snd.fst ∧ x.snd.snd.fst = x.snd.snd.fst) ∧
 allI x.fst = allI x.fst ∧ True) ∧
 Z (IntKind.wrap IntKind.i64 (a + (1 : Int)), ()) ∧
 μ (IntKind.wrap IntKind.i64 (a + (1 : Int)), ()) < μ (a, ())))) ∧
 (decide (a < (↑(List.length (allI x.fst)) : Int)) = false →
 (((-1 : Int) == (-1 : Int)) = true →
 allI x.fst = List.filter (inI x.snd.fst x.snd.snd.fst) (allI x.fst)) ∧
 (((-1 : Int) == (-1 : Int)) = false →
 ((IntKind.wrap IntKind.i64 ((-1 : Int) + (1 : Int)) =
 IntKind.wrap IntKind.i64 ((-1 : Int) + (1 : Int)) ∧
 (-1 : Int) = (-1 : Int) ∧
 True ∧
 (True ∧ True) ∧
 Value.slice none (0 : Nat) (0 : Nat) = Value.slice none (0 : Nat) (0 : Nat)) ∧
 (x.snd.fst = x.snd.fst ∧ x.snd.snd.fst = x.snd.snd.fst) ∧
 allI x.fst = allI x.fst ∧ True) ∧
 ∃ (Z : List Inl × Int × Int × Unit → Prop),
 ∃ (μ : List Inl × Int × Int × Unit → Nat),
 Z (allI x.fst, (-1 : Int), IntKind.wrap IntKind.i64 ((-1 : Int) + (1 : Int)), ()) ∧
 ∀ (a : List Inl) (a_2 a_3 : Int),
 Z (a, a_2, a_3, ()) →
 (decide (a_3 < (↑(List.length a) : Int)) = true →
 ((0 : Int) ≤ a_3 ∧ a_3 < (↑(List.length a) : Int)) ∧
 (decide ((List.getD a (Int.toNat a_3) (Ty.dflt t42)).snd.fst < x.snd.fst) =
 true →
 ((!true) = true →
 ((0 : Int) ≤ a_2 ∧ a_2 < (↑(List.length a) : Int)) ∧
 ((IntKind.wrap IntKind.i64 (a_3 + (1 : Int)) =
 IntKind.wrap IntKind.i64 (a_3 + (1 : Int)) ∧
 IntKind.wrap IntKind.i64 (a_2 + (1 : Int)) =
 IntKind.wrap IntKind.i64 (a_2 + (1 : Int)) ∧
 True ∧
 (True ∧ True) ∧
 Value.slice none (0 : Nat) (0 : Nat) =
 Value.slice none (0 : Nat) (0 : Nat)) ∧
 (x.snd.fst = x.snd.fst ∧ x.snd.snd.fst = x.snd.snd.fst) ∧
 List.set a (Int.toNat a_2)
 (List.getD a (Int.toNat a_3) (Ty.dflt t42)) =
 List.set a (Int.toNat a_2)
 (List.getD a (Int.toNat a_3) (Ty.dflt t42)) ∧
 True) ∧
 Z
 (List.set a (Int.toNat a_2)
 (List.getD a (Int.toNat a_3) (Ty.dflt t42)),
 IntKind.wrap IntKind.i64 (a_2 + (1 : Int)),
 IntKind.wrap IntKind.i64 (a_3 + (1 : Int)), ()) ∧
 μ
 (List.set a (Int.toNat a_2)
 (List.getD a (Int.toNat a_3) (Ty.dflt t42)),
 IntKind.wrap IntKind.i64 (a_2 + (1 : Int)),
 IntKind.wrap IntKind.i64 (a_3 + (1 : Int)), ()) <
 μ (a, a_2, a_3, ())) ∧
 ((!true) = false →
 ((IntKind.wrap IntKind.i64 (a_3 + (1 : Int)) =
 IntKind.wrap IntKind.i64 (a_3 + (1 : Int)) ∧
 a_2 = a_2 ∧
 True ∧
 (True ∧ True) ∧
 Value.slice none (0 : Nat) (0 : Nat) =
 Value.slice none (0 : Nat) (0 : Nat)) ∧
 (x.snd.fst = x.snd.fst ∧ x.snd.snd.fst = x.snd.snd.fst) ∧
 a = a ∧ True) ∧
 Z (a, a_2, IntKind.wrap IntKind.i64 (a_3 + (1 : Int)), ()) ∧
 μ (a, a_2, IntKind.wrap IntKind.i64 (a_3 + (1 : Int)), ()) <
 μ (a, a_2, a_3, ()))) ∧
 (decide
 ((List.getD a (Int.toNat a_3) (Ty.dflt t42)).snd.fst < x.snd.fst) =
 false →
 ((!decide
 ((List.getD a (Int.toNat a_3) (Ty.dflt t42)).snd.fst >
 x.snd.snd.fst)) =
 true →
 ((0 : Int) ≤ a_2 ∧ a_2 < (↑(List.length a) : Int)) ∧
 ((IntKind.wrap IntKind.i64 (a_3 + (1 : Int)) =
 IntKind.wrap IntKind.i64 (a_3 + (1 : Int)) ∧
 IntKind.wrap IntKind.i64 (a_2 + (1 : Int)) =
 IntKind.wrap IntKind.i64 (a_2 + (1 : Int)) ∧
 True ∧
 (True ∧ True) ∧
 Value.slice none (0 : Nat) (0 : Nat) =
 Value.slice none (0 : Nat) (0 : Nat)) ∧
 (x.snd.fst = x.snd.fst ∧ x.snd.snd.fst = x.snd.snd.fst) ∧
 List.set a (Int.toNat a_2)
 (List.getD a (Int.toNat a_3) (Ty.dflt t42)) =
 List.set a (Int.toNat a_2)
 (List.getD a (Int.toNat a_3) (Ty.dflt t42)) ∧
 True) ∧
 Z
 (List.set a (Int.toNat a_2)
 (List.getD a (Int.toNat a_3) (Ty.dflt t42)),
 IntKind.wrap IntKind.i64 (a_2 + (1 : Int)),
 IntKind.wrap IntKind.i64 (a_3 + (1 : Int)), ()) ∧
 μ
 (List.set a (Int.toNat a_2)
 (List.getD a (Int.toNat a_3) (Ty.dflt t42)),
 IntKind.wrap IntKind.i64 (a_2 + (1 : Int)),
 IntKind.wrap IntKind.i64 (a_3 + (1 : Int)), ()) <
 μ (a, a_2, a_3, ())) ∧
 ((!decide
 ((List.getD a (Int.toNat a_3) (Ty.dflt t42)).snd.fst >
 x.snd.snd.fst)) =
 false →
 ((IntKind.wrap IntKind.i64 (a_3 + (1 : Int)) =
 IntKind.wrap IntKind.i64 (a_3 + (1 : Int)) ∧
 a_2 = a_2 ∧
 True ∧
 (True ∧ True) ∧
 Value.slice none (0 : Nat) (0 : Nat) =
 Value.slice none (0 : Nat) (0 : Nat)) ∧
 (x.snd.fst = x.snd.fst ∧ x.snd.snd.fst = x.snd.snd.fst) ∧
 a = a ∧ True) ∧
 Z (a, a_2, IntKind.wrap IntKind.i64 (a_3 + (1 : Int)), ()) ∧
 μ (a, a_2, IntKind.wrap IntKind.i64 (a_3 + (1 : Int)), ()) <
 μ (a, a_2, a_3, ())))) ∧
 (decide (a_3 < (↑(List.length a) : Int)) = false →
 ((0 : Int) ≤ a_2 ∧ a_2 < (↑(List.length a) : Int)) ∧
 ((0 : Int) ≤ a_2 ∧
 a_2 ≤
 (↑(List.length
 (List.take (Int.toNat a_2) a ++
 List.replicate (List.length a - Int.toNat a_2)
 ((0 : Int), (0 : Int), (0 : Int), (0 : Int),
 ByteArray.empty, ()))) :
 Int)) ∧
 List.take (Int.toNat a_2)
 (List.take (Int.toNat a_2) a ++
 List.replicate (List.length a - Int.toNat a_2)
 ((0 : Int), (0 : Int), (0 : Int), (0 : Int), ByteArray.empty,
 ())) =
 List.filter (inI x.snd.fst x.snd.snd.fst) (allI x.fst))))
theorem vcEq14 : fnVC E14 Tryd.f14 (bodyOf Tryd.f14) cBetween = vc14 := by kernel_rfl
/- fn 18 -/
def hsO18 : List (Nat × Nat × Hint) := []
def nmO18 : List Nat := [3000000025, 3000000031, 3000000051]
noncomputable def EO18 : Env := envR tab [(34, cCloneO)] [] gl hsO18 nmO18 []
def vcO18 : Prop :=
 ∀ (x : Option (Int × List Inl × Unit) × Unit),
 List.length (allI x.fst) ≤ (10000 : Nat) →
 (Option.isNone x.fst = true → [] = allI x.fst) ∧
 (Option.isNone x.fst = false →
 Option.isSome x.fst = true ∧
 List.length (List.getD (optL x.fst) (0 : Nat) (Ty.dflt t58)).snd.fst ≤ (10000 : Nat) ∧
 (List.getD (optL x.fst) (0 : Nat) (Ty.dflt t58)).snd.fst = allI x.fst)
theorem vcEqO18 : fnVCO EO18 Tryd.f18 (bodyOf Tryd.f18) cAllO = vcO18 := by kernel_rfl
/- fn 19 -/
def hs19 : List (Nat × Nat × Hint) := [(0, 8, ⟨[.slot 42 t3, .rowN 39 t42 42], [1, 6, 7, 41], [], []⟩)]
def nm19 : List Nat := [3000000025, 3000000031, 3000000051]
noncomputable def E19 : Env := env tab [(22, cLen), (35, cNormal), (36, cDelta), (18, cAllO), (37, cMap), (10, cNew)] [] gl hs19 nm19
def vc19 : Prop :=
 ∀
 (x :
 Option (Int × List Inl × Unit) ×
 List Chg × Unit),
 okI x.fst ∧ List.length x.snd.fst ≤ (1000 : Nat) →
 True ∧
 List.length x.snd.fst ≤ maxLen ∧
 ((!normal x.snd.fst) = true → (none, (4 : Int), ()) = shiftI x.fst x.snd.fst) ∧
 ((!normal x.snd.fst) = false →
 (decide ((↑(List.length x.snd.fst) : Int) > (0 : Int)) = true →
 ((0 : Int) ≤ IntKind.wrap IntKind.i64 ((↑(List.length x.snd.fst) : Int) - (1 : Int)) ∧
 IntKind.wrap IntKind.i64 ((↑(List.length x.snd.fst) : Int) - (1 : Int)) <
 (↑(List.length x.snd.fst) : Int)) ∧
 (decide
 ((List.getD x.snd.fst
 (Int.toNat
 (IntKind.wrap IntKind.i64 ((↑(List.length x.snd.fst) : Int) - (1 : Int))))
 (Ty.dflt t79)).fst.snd.fst >
 lenI x.fst) =
 true →
 (none, (1 : Int), ()) = shiftI x.fst x.snd.fst) ∧
 (decide
 ((List.getD x.snd.fst
 (Int.toNat
 (IntKind.wrap IntKind.i64 ((↑(List.length x.snd.fst) : Int) - (1 : Int))))
 (Ty.dflt t79)).fst.snd.fst >
 lenI x.fst) =
 false →
 List.length x.snd.fst ≤ maxLen ∧
 (decide (IntKind.wrap IntKind.i64 (lenI x.fst + delta x.snd.fst) > (1099511627776 : Int)) =
 true →
 (none, (1 : Int), ()) = shiftI x.fst x.snd.fst) ∧
 (decide (IntKind.wrap IntKind.i64 (lenI x.fst + delta x.snd.fst) > (1099511627776 : Int)) =
 false →
 List.length (allI x.fst) ≤ (10000 : Nat) ∧
 (((0 : Int) = (0 : Int) ∧
 x.snd.fst = x.snd.fst ∧
 lenI x.fst = lenI x.fst ∧
 True ∧
 (↑(List.length (allI x.fst)) : Int) = (↑(List.length (allI x.fst)) : Int)) ∧
 allI x.fst = allI x.fst ∧ True) ∧
 ∃ (Z : Int × List Inl × Unit → Prop),
 ∃ (μ : Int × List Inl × Unit → Nat),
 Z ((0 : Int), allI x.fst, ()) ∧
 ∀ (a : Int) (a_1 : List Inl),
 Z (a, a_1, ()) →
 (decide (a < (↑(List.length (allI x.fst)) : Int)) = true →
 ((0 : Int) ≤ a ∧ a < (↑(List.length a_1) : Int)) ∧
 ((0 : Int) ≤ a ∧ a < (↑(List.length a_1) : Int)) ∧
 List.length x.snd.fst ≤ maxLen ∧
 ((0 : Int) ≤ a ∧ a < (↑(List.length a_1) : Int)) ∧
 ((IntKind.wrap IntKind.i64 (a + (1 : Int)) =
 IntKind.wrap IntKind.i64 (a + (1 : Int)) ∧
 x.snd.fst = x.snd.fst ∧
 lenI x.fst = lenI x.fst ∧
 True ∧
 (↑(List.length (allI x.fst)) : Int) =
 (↑(List.length (allI x.fst)) : Int)) ∧
 List.set a_1 (Int.toNat a)
 ((List.getD a_1 (Int.toNat a) (Ty.dflt t42)).fst,
 (mapP x.snd.fst
 (List.getD a_1 (Int.toNat a)
 (Ty.dflt t42)).snd.fst
 (List.getD a_1 (Int.toNat a)
 (Ty.dflt t42)).snd.snd.fst).fst,
 (List.getD a_1 (Int.toNat a) (Ty.dflt t42)).snd.snd) =
 List.set a_1 (Int.toNat a)
 ((List.getD a_1 (Int.toNat a) (Ty.dflt t42)).fst,
 (mapP x.snd.fst
 (List.getD a_1 (Int.toNat a)
 (Ty.dflt t42)).snd.fst
 (List.getD a_1 (Int.toNat a)
 (Ty.dflt t42)).snd.snd.fst).fst,
 (List.getD a_1 (Int.toNat a) (Ty.dflt t42)).snd.snd) ∧
 True) ∧
 Z
 (IntKind.wrap IntKind.i64 (a + (1 : Int)),
 List.set a_1 (Int.toNat a)
 ((List.getD a_1 (Int.toNat a) (Ty.dflt t42)).fst,
 (mapP x.snd.fst
 (List.getD a_1 (Int.toNat a)
 (Ty.dflt t42)).snd.fst
 (List.getD a_1 (Int.toNat a)
 (Ty.dflt t42)).snd.snd.fst).fst,
 (List.getD a_1 (Int.toNat a) (Ty.dflt t42)).snd.snd),
 ()) ∧
 μ
 (IntKind.wrap IntKind.i64 (a + (1 : Int)),
 List.set a_1 (Int.toNat a)
 ((List.getD a_1 (Int.toNat a) (Ty.dflt t42)).fst,
 (mapP x.snd.fst
 (List.getD a_1 (Int.toNat a)
 (Ty.dflt t42)).snd.fst
 (List.getD a_1 (Int.toNat a)
 (Ty.dflt t42)).snd.snd.fst).fst,
 (List.getD a_1 (Int.toNat a)
 (Ty.dflt t42)).snd.snd),
 ()) <
 μ (a, a_1, ())) ∧
 (decide (a < (↑(List.length (allI x.fst)) : Int)) = false →
 List.length x.snd.fst ≤ maxLen ∧
 (List.length a_1 ≤ maxLen ∧ shortL a_1) ∧
 newI (IntKind.wrap IntKind.i64 (lenI x.fst + delta x.snd.fst)) a_1 =
 shiftI x.fst x.snd.fst)))) ∧
 (decide ((↑(List.length x.snd.fst) : Int) > (0 : Int)) = false →
 List.length x.snd.fst ≤ maxLen ∧
 (decide (IntKind.wrap IntKind.i64 (lenI x.fst + delta x.snd.fst) > (1099511627776 : Int)) = true →
 (none, (1 : Int), ()) = shiftI x.fst x.snd.fst) ∧
 (decide (IntKind.wrap IntKind.i64 (lenI x.fst + delta x.snd.fst) > (1099511627776 : Int)) = false →
 List.length (allI x.fst) ≤ (10000 : Nat) ∧
 (((0 : Int) = (0 : Int) ∧
 x.snd.fst = x.snd.fst ∧
 lenI x.fst = lenI x.fst ∧
 True ∧ (↑(List.length (allI x.fst)) : Int) = (↑(List.length (allI x.fst)) : Int)) ∧
 allI x.fst = allI x.fst ∧ True) ∧
 ∃ (Z : Int × List Inl × Unit → Prop),
 ∃ (μ : Int × List Inl × Unit → Nat),
 Z ((0 : Int), allI x.fst, ()) ∧
 ∀ (a : Int) (a_1 : List Inl),
 Z (a, a_1, ()) →
 (decide (a < (↑(List.length (allI x.fst)) : Int)) = true →
 ((0 : Int) ≤ a ∧ a < (↑(List.length a_1) : Int)) ∧
 ((0 : Int) ≤ a ∧ a < (↑(List.length a_1) : Int)) ∧
 List.length x.snd.fst ≤ maxLen ∧
 ((0 : Int) ≤ a ∧ a < (↑(List.length a_1) : Int)) ∧
 ((IntKind.wrap IntKind.i64 (a + (1 : Int)) =
 IntKind.wrap IntKind.i64 (a + (1 : Int)) ∧
 x.snd.fst = x.snd.fst ∧
 lenI x.fst = lenI x.fst ∧
 True ∧
 (↑(List.length (allI x.fst)) : Int) =
 (↑(List.length (allI x.fst)) : Int)) ∧
 List.set a_1 (Int.toNat a)
 ((List.getD a_1 (Int.toNat a) (Ty.dflt t42)).fst,
 (mapP x.snd.fst
 (List.getD a_1 (Int.toNat a) (Ty.dflt t42)).snd.fst
 (List.getD a_1 (Int.toNat a)
 (Ty.dflt t42)).snd.snd.fst).fst,
 (List.getD a_1 (Int.toNat a) (Ty.dflt t42)).snd.snd) =
 List.set a_1 (Int.toNat a)
 ((List.getD a_1 (Int.toNat a) (Ty.dflt t42)).fst,
 (mapP x.snd.fst
 (List.getD a_1 (Int.toNat a) (Ty.dflt t42)).snd.fst
 (List.getD a_1 (Int.toNat a)
 (Ty.dflt t42)).snd.snd.fst).fst,
 (List.getD a_1 (Int.toNat a) (Ty.dflt t42)).snd.snd) ∧
 True) ∧
 Z
 (IntKind.wrap IntKind.i64 (a + (1 : Int)),
 List.set a_1 (Int.toNat a)
 ((List.getD a_1 (Int.toNat a) (Ty.dflt t42)).fst,
 (mapP x.snd.fst
 (List.getD a_1 (Int.toNat a) (Ty.dflt t42)).snd.fst
 (List.getD a_1 (Int.toNat a)
 (Ty.dflt t42)).snd.snd.fst).fst,
 (List.getD a_1 (Int.toNat a) (Ty.dflt t42)).snd.snd),
 ()) ∧
 μ
 (IntKind.wrap IntKind.i64 (a + (1 : Int)),
 List.set a_1 (Int.toNat a)
 ((List.getD a_1 (Int.toNat a) (Ty.dflt t42)).fst,
 (mapP x.snd.fst
 (List.getD a_1 (Int.toNat a) (Ty.dflt t42)).snd.fst
 (List.getD a_1 (Int.toNat a)
 (Ty.dflt t42)).snd.snd.fst).fst,
 (List.getD a_1 (Int.toNat a) (Ty.dflt t42)).snd.snd),
 ()) <
 μ (a, a_1, ())) ∧
 (decide (a < (↑(List.length (allI x.fst)) : Int)) = false →
 List.length x.snd.fst ≤ maxLen ∧
 (List.length a_1 ≤ maxLen ∧ shortL a_1) ∧
 newI (IntKind.wrap IntKind.i64 (lenI x.fst + delta x.snd.fst)) a_1 =
 shiftI x.fst x.snd.fst))))
theorem vcEq19 : fnVC E19 Tryd.f19 (bodyOf Tryd.f19) cShift = vc19 := by kernel_rfl
/- fn 34 -/
def hsO34 : List (Nat × Nat × Hint) := []
def nmO34 : List Nat := [1000000005, 3000000025, 3000000031, 3000000051]
noncomputable def EO34 : Env := envR tab [] [] gl hsO34 nmO34 []
def vcO34 : Prop :=
 ∀ (x : List Inl × Unit),
 List.length x.fst ≤ (10000 : Nat) →
 ∀ (c : Bool),
 (c = true → List.length x.fst = (0 : Nat)) →
 (c = true → [] = x.fst) ∧
 (c = false →
 ((0 : Nat) + List.length x.fst) * (48 : Nat) ≤ (140737488355328 : Nat) ∧
 (0 : Nat) + List.length x.fst ≤ maxLen ∧ [] ++ x.fst = x.fst)
theorem vcEqO34 : fnVCO EO34 Tryd.f34 (bodyOf Tryd.f34) cCloneO = vcO34 := by kernel_rfl
end Go.Fr.C13
