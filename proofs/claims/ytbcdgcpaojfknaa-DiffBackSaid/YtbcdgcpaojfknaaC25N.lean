/-
  Conditions to be proved, function by function, printed by a program. Conditions: none.
-/
import Derived.Test.YtbcdgcpaojfknaaC25B
namespace Go.Fr.C25
open Go Go.Fr Go.Proofs
set_option maxRecDepth 100000

/- fn 7 -/
def hs7 : List (Nat × Nat × Hint) := []
def nm7 : List Nat := []
noncomputable def E7 : Env := env tab [(14, cLong), (9, cMiddle), (19, cApply), (13, cFits), (20, cRows)] [] noGl hs7 nm7
def vc7 : Prop :=
 ∀
 (x :
 List Row ×
 List Row ×
 (Int × Int × Int × Int × Unit) × Unit),
 rowsS x.fst ∧ rowsS x.snd.fst →
 List.length x.fst ≤ maxLen ∧
 (long x.fst = true → True ∧ true = true) ∧
 (long x.fst = false →
 List.length x.snd.fst ≤ maxLen ∧
 (long x.snd.fst = true → True ∧ true = true) ∧
 (long x.snd.fst = false →
 (List.length x.fst ≤ (1000 : Nat) ∧ List.length x.snd.fst ≤ (1000 : Nat)) ∧
 (decide (x.snd.snd.fst.fst ≥ (0 : Int)) = true →
 (decide (x.snd.snd.fst.snd.fst ≥ x.snd.snd.fst.fst) = true →
 (decide (x.snd.snd.fst.snd.fst ≤ (↑(List.length x.fst) : Int)) = true →
 ((↑(List.length x.fst) : Int) ≤ (9223372036854775807 : Int) ∧
 IntKind.wrap IntKind.i64
 (IntKind.wrap IntKind.i64
 ((↑(List.length x.fst) : Int) -
 IntKind.wrap IntKind.i64 (x.snd.snd.fst.snd.fst - x.snd.snd.fst.fst)) +
 (↑(List.length x.snd.fst) : Int)) ≤
 (9223372036854775807 : Int)) ∧
 ((!fits x.snd.snd.fst (↑(List.length x.fst) : Int)
 (IntKind.wrap IntKind.i64
 (IntKind.wrap IntKind.i64
 ((↑(List.length x.fst) : Int) -
 IntKind.wrap IntKind.i64
 (x.snd.snd.fst.snd.fst - x.snd.snd.fst.fst)) +
 (↑(List.length x.snd.fst) : Int)))) =
 true →
 (((apply x.fst x.snd.snd.fst x.snd.fst).snd.fst == (1 : Int)) = true →
 (((↑(List.length (apply x.fst x.snd.snd.fst x.snd.fst).fst) : Int) ==
 (0 : Int)) =
 true →
 True ∧ true = true) ∧
 (((↑(List.length (apply x.fst x.snd.snd.fst x.snd.fst).fst) : Int) ==
 (0 : Int)) =
 false →
 false = true)) ∧
 (((apply x.fst x.snd.snd.fst x.snd.fst).snd.fst == (1 : Int)) = false →
 false = true)) ∧
 ((!fits x.snd.snd.fst (↑(List.length x.fst) : Int)
 (IntKind.wrap IntKind.i64
 (IntKind.wrap IntKind.i64
 ((↑(List.length x.fst) : Int) -
 IntKind.wrap IntKind.i64
 (x.snd.snd.fst.snd.fst - x.snd.snd.fst.fst)) +
 (↑(List.length x.snd.fst) : Int)))) =
 false →
 ((0 : Int) ≤ x.snd.snd.fst.fst ∧ x.snd.snd.fst.fst ≤ (↑(List.length x.fst) : Int)) ∧
 ((0 : Nat) + List.length (List.take (Int.toNat x.snd.snd.fst.fst) x.fst)) *
 (64 : Nat) ≤
 (140737488355328 : Nat) ∧
 (0 : Nat) + List.length (List.take (Int.toNat x.snd.snd.fst.fst) x.fst) ≤
 maxLen ∧
 (List.length ([] ++ List.take (Int.toNat x.snd.snd.fst.fst) x.fst) +
 List.length x.snd.fst) *
 (64 : Nat) ≤
 (140737488355328 : Nat) ∧
 List.length ([] ++ List.take (Int.toNat x.snd.snd.fst.fst) x.fst) +
 List.length x.snd.fst ≤
 maxLen ∧
 ((0 : Int) ≤ x.snd.snd.fst.snd.fst ∧
 x.snd.snd.fst.snd.fst ≤ (↑(List.length x.fst) : Int)) ∧
 (List.length
 ([] ++ List.take (Int.toNat x.snd.snd.fst.fst) x.fst ++
 x.snd.fst) +
 List.length
 (List.drop (Int.toNat x.snd.snd.fst.snd.fst) x.fst)) *
 (64 : Nat) ≤
 (140737488355328 : Nat) ∧
 List.length
 ([] ++ List.take (Int.toNat x.snd.snd.fst.fst) x.fst ++
 x.snd.fst) +
 List.length
 (List.drop (Int.toNat x.snd.snd.fst.snd.fst) x.fst) ≤
 maxLen ∧
 (((apply x.fst x.snd.snd.fst x.snd.fst).snd.fst == (0 : Int)) =
 true →
 (rows (apply x.fst x.snd.snd.fst x.snd.fst).fst ∧
 rows
 ([] ++ List.take (Int.toNat x.snd.snd.fst.fst) x.fst ++
 x.snd.fst ++
 List.drop (Int.toNat x.snd.snd.fst.snd.fst) x.fst)) ∧
 (all2 rowEq (apply x.fst x.snd.snd.fst x.snd.fst).fst
 ([] ++
 List.take (Int.toNat x.snd.snd.fst.fst) x.fst ++
 x.snd.fst ++
 List.drop (Int.toNat x.snd.snd.fst.snd.fst) x.fst) =
 true →
 True ∧ true = true) ∧
 (all2 rowEq (apply x.fst x.snd.snd.fst x.snd.fst).fst
 ([] ++
 List.take (Int.toNat x.snd.snd.fst.fst) x.fst ++
 x.snd.fst ++
 List.drop (Int.toNat x.snd.snd.fst.snd.fst) x.fst) =
 false →
 false = true)) ∧
 (((apply x.fst x.snd.snd.fst x.snd.fst).snd.fst == (0 : Int)) =
 false →
 false = true))) ∧
 (decide (x.snd.snd.fst.snd.fst ≤ (↑(List.length x.fst) : Int)) = false →
 ((!decide (x.snd.snd.fst.snd.fst ≤ (↑(List.length x.fst) : Int))) = true →
 (((apply x.fst x.snd.snd.fst x.snd.fst).snd.fst == (1 : Int)) = true →
 (((↑(List.length (apply x.fst x.snd.snd.fst x.snd.fst).fst) : Int) == (0 : Int)) =
 true →
 True ∧ true = true) ∧
 (((↑(List.length (apply x.fst x.snd.snd.fst x.snd.fst).fst) : Int) ==
 (0 : Int)) =
 false →
 false = true)) ∧
 (((apply x.fst x.snd.snd.fst x.snd.fst).snd.fst == (1 : Int)) = false →
 false = true)) ∧
 ((!decide (x.snd.snd.fst.snd.fst ≤ (↑(List.length x.fst) : Int))) = false →
 ((0 : Int) ≤ x.snd.snd.fst.fst ∧ x.snd.snd.fst.fst ≤ (↑(List.length x.fst) : Int)) ∧
 ((0 : Nat) + List.length (List.take (Int.toNat x.snd.snd.fst.fst) x.fst)) *
 (64 : Nat) ≤
 (140737488355328 : Nat) ∧
 (0 : Nat) + List.length (List.take (Int.toNat x.snd.snd.fst.fst) x.fst) ≤
 maxLen ∧
 (List.length ([] ++ List.take (Int.toNat x.snd.snd.fst.fst) x.fst) +
 List.length x.snd.fst) *
 (64 : Nat) ≤
 (140737488355328 : Nat) ∧
 List.length ([] ++ List.take (Int.toNat x.snd.snd.fst.fst) x.fst) +
 List.length x.snd.fst ≤
 maxLen ∧
 ((0 : Int) ≤ x.snd.snd.fst.snd.fst ∧
 x.snd.snd.fst.snd.fst ≤ (↑(List.length x.fst) : Int)) ∧
 (List.length
 ([] ++ List.take (Int.toNat x.snd.snd.fst.fst) x.fst ++
 x.snd.fst) +
 List.length (List.drop (Int.toNat x.snd.snd.fst.snd.fst) x.fst)) *
 (64 : Nat) ≤
 (140737488355328 : Nat) ∧
 List.length
 ([] ++ List.take (Int.toNat x.snd.snd.fst.fst) x.fst ++
 x.snd.fst) +
 List.length (List.drop (Int.toNat x.snd.snd.fst.snd.fst) x.fst) ≤
 maxLen ∧
 (((apply x.fst x.snd.snd.fst x.snd.fst).snd.fst == (0 : Int)) = true →
 (rows (apply x.fst x.snd.snd.fst x.snd.fst).fst ∧
 rows
 ([] ++ List.take (Int.toNat x.snd.snd.fst.fst) x.fst ++
 x.snd.fst ++
 List.drop (Int.toNat x.snd.snd.fst.snd.fst) x.fst)) ∧
 (all2 rowEq (apply x.fst x.snd.snd.fst x.snd.fst).fst
 ([] ++ List.take (Int.toNat x.snd.snd.fst.fst) x.fst ++
 x.snd.fst ++
 List.drop (Int.toNat x.snd.snd.fst.snd.fst) x.fst) =
 true →
 True ∧ true = true) ∧
 (all2 rowEq (apply x.fst x.snd.snd.fst x.snd.fst).fst
 ([] ++ List.take (Int.toNat x.snd.snd.fst.fst) x.fst ++
 x.snd.fst ++
 List.drop (Int.toNat x.snd.snd.fst.snd.fst) x.fst) =
 false →
 false = true)) ∧
 (((apply x.fst x.snd.snd.fst x.snd.fst).snd.fst == (0 : Int)) =
 false →
 false = true)))) ∧
 (decide (x.snd.snd.fst.snd.fst ≥ x.snd.snd.fst.fst) = false →
 ((!false) = true →
 (((apply x.fst x.snd.snd.fst x.snd.fst).snd.fst == (1 : Int)) = true →
 (((↑(List.length (apply x.fst x.snd.snd.fst x.snd.fst).fst) : Int) == (0 : Int)) =
 true →
 True ∧ true = true) ∧
 (((↑(List.length (apply x.fst x.snd.snd.fst x.snd.fst).fst) : Int) == (0 : Int)) =
 false →
 false = true)) ∧
 (((apply x.fst x.snd.snd.fst x.snd.fst).snd.fst == (1 : Int)) = false → false = true)) ∧
 ((!false) = false →
 ((0 : Int) ≤ x.snd.snd.fst.fst ∧ x.snd.snd.fst.fst ≤ (↑(List.length x.fst) : Int)) ∧
 ((0 : Nat) + List.length (List.take (Int.toNat x.snd.snd.fst.fst) x.fst)) *
 (64 : Nat) ≤
 (140737488355328 : Nat) ∧
 (0 : Nat) + List.length (List.take (Int.toNat x.snd.snd.fst.fst) x.fst) ≤
 maxLen ∧
 (List.length ([] ++ List.take (Int.toNat x.snd.snd.fst.fst) x.fst) +
 List.length x.snd.fst) *
 (64 : Nat) ≤
 (140737488355328 : Nat) ∧
 List.length ([] ++ List.take (Int.toNat x.snd.snd.fst.fst) x.fst) +
 List.length x.snd.fst ≤
 maxLen ∧
 ((0 : Int) ≤ x.snd.snd.fst.snd.fst ∧
 x.snd.snd.fst.snd.fst ≤ (↑(List.length x.fst) : Int)) ∧
 (List.length
 ([] ++ List.take (Int.toNat x.snd.snd.fst.fst) x.fst ++ x.snd.fst) +
 List.length (List.drop (Int.toNat x.snd.snd.fst.snd.fst) x.fst)) *
 (64 : Nat) ≤
 (140737488355328 : Nat) ∧
 List.length
 ([] ++ List.take (Int.toNat x.snd.snd.fst.fst) x.fst ++ x.snd.fst) +
 List.length (List.drop (Int.toNat x.snd.snd.fst.snd.fst) x.fst) ≤
 maxLen ∧
 (((apply x.fst x.snd.snd.fst x.snd.fst).snd.fst == (0 : Int)) = true →
 (rows (apply x.fst x.snd.snd.fst x.snd.fst).fst ∧
 rows
 ([] ++ List.take (Int.toNat x.snd.snd.fst.fst) x.fst ++
 x.snd.fst ++
 List.drop (Int.toNat x.snd.snd.fst.snd.fst) x.fst)) ∧
 (all2 rowEq (apply x.fst x.snd.snd.fst x.snd.fst).fst
 ([] ++ List.take (Int.toNat x.snd.snd.fst.fst) x.fst ++
 x.snd.fst ++
 List.drop (Int.toNat x.snd.snd.fst.snd.fst) x.fst) =
 true →
 True ∧ true = true) ∧
 (all2 rowEq (apply x.fst x.snd.snd.fst x.snd.fst).fst
 ([] ++ List.take (Int.toNat x.snd.snd.fst.fst) x.fst ++
 x.snd.fst ++
 List.drop (Int.toNat x.snd.snd.fst.snd.fst) x.fst) =
 false →
 false = true)) ∧
 (((apply x.fst x.snd.snd.fst x.snd.fst).snd.fst == (0 : Int)) = false →
 false = true)))) ∧
 (decide (x.snd.snd.fst.fst ≥ (0 : Int)) = false →
 ((!false) = true →
 (((apply x.fst x.snd.snd.fst x.snd.fst).snd.fst == (1 : Int)) = true →
 (((↑(List.length (apply x.fst x.snd.snd.fst x.snd.fst).fst) : Int) == (0 : Int)) = true →
 True ∧ true = true) ∧
 (((↑(List.length (apply x.fst x.snd.snd.fst x.snd.fst).fst) : Int) == (0 : Int)) =
 false →
 false = true)) ∧
 (((apply x.fst x.snd.snd.fst x.snd.fst).snd.fst == (1 : Int)) = false → false = true)) ∧
 ((!false) = false →
 ((0 : Int) ≤ x.snd.snd.fst.fst ∧ x.snd.snd.fst.fst ≤ (↑(List.length x.fst) : Int)) ∧
 ((0 : Nat) + List.length (List.take (Int.toNat x.snd.snd.fst.fst) x.fst)) *
 (64 : Nat) ≤
 (140737488355328 : Nat) ∧
 (0 : Nat) + List.length (List.take (Int.toNat x.snd.snd.fst.fst) x.fst) ≤ maxLen ∧
 (List.length ([] ++ List.take (Int.toNat x.snd.snd.fst.fst) x.fst) +
 List.length x.snd.fst) *
 (64 : Nat) ≤
 (140737488355328 : Nat) ∧
 List.length ([] ++ List.take (Int.toNat x.snd.snd.fst.fst) x.fst) +
 List.length x.snd.fst ≤
 maxLen ∧
 ((0 : Int) ≤ x.snd.snd.fst.snd.fst ∧
 x.snd.snd.fst.snd.fst ≤ (↑(List.length x.fst) : Int)) ∧
 (List.length ([] ++ List.take (Int.toNat x.snd.snd.fst.fst) x.fst ++ x.snd.fst) +
 List.length (List.drop (Int.toNat x.snd.snd.fst.snd.fst) x.fst)) *
 (64 : Nat) ≤
 (140737488355328 : Nat) ∧
 List.length ([] ++ List.take (Int.toNat x.snd.snd.fst.fst) x.fst ++ x.snd.fst) +
 List.length (List.drop (Int.toNat x.snd.snd.fst.snd.fst) x.fst) ≤
 maxLen ∧
 (((apply x.fst x.snd.snd.fst x.snd.fst).snd.fst == (0 : Int)) = true →
 (rows (apply x.fst x.snd.snd.fst x.snd.fst).fst ∧
 rows
 ([] ++ List.take (Int.toNat x.snd.snd.fst.fst) x.fst ++ x.snd.fst ++
 List.drop (Int.toNat x.snd.snd.fst.snd.fst) x.fst)) ∧
 (all2 rowEq (apply x.fst x.snd.snd.fst x.snd.fst).fst
 ([] ++ List.take (Int.toNat x.snd.snd.fst.fst) x.fst ++
 x.snd.fst ++
 List.drop (Int.toNat x.snd.snd.fst.snd.fst) x.fst) =
 true →
 True ∧ true = true) ∧
 (all2 rowEq (apply x.fst x.snd.snd.fst x.snd.fst).fst
 ([] ++ List.take (Int.toNat x.snd.snd.fst.fst) x.fst ++
 x.snd.fst ++
 List.drop (Int.toNat x.snd.snd.fst.snd.fst) x.fst) =
 false →
 false = true)) ∧
 (((apply x.fst x.snd.snd.fst x.snd.fst).snd.fst == (0 : Int)) = false →
 false = true)))))
theorem vcEq7 : fnVC E7 Try.f7 (bodyOf Try.f7) cDiffApplies = vc7 := by kernel_rfl
/- fn 8 -/
def hs8 : List (Nat × Nat × Hint) := [(0, 11, ⟨[.slot 66 t3], [1, 64, 65], [], []⟩)]
def nm8 : List Nat := []
noncomputable def E8 : Env := env tab [(14, cLong), (9, cMiddle), (15, cSound), (17, cLeast), (19, cApply), (11, cSame)] [] noGl hs8 nm8
def vc8 : Prop :=
 ∀
 (x :
 List Row ×
 List Row ×
 (Int × Int × Int × Int × Unit) × Unit),
 rowsS x.fst ∧ rowsS x.snd.fst →
 List.length x.fst ≤ maxLen ∧
 (long x.fst = true → True ∧ true = true) ∧
 (long x.fst = false →
 List.length x.snd.fst ≤ maxLen ∧
 (long x.snd.fst = true → True ∧ true = true) ∧
 (long x.snd.fst = false →
 (rows x.fst ∧ rows x.snd.fst) ∧
 ((!sound x.fst x.snd.fst x.snd.snd.fst) = true →
 (rows x.fst ∧ rows x.snd.fst) ∧
 (decide ((least x.fst x.snd.fst).snd.snd.fst < (0 : Int)) = true → false = true) ∧
 (decide ((least x.fst x.snd.fst).snd.snd.fst < (0 : Int)) = false →
 (decide ((least x.fst x.snd.fst).snd.snd.snd.fst < (least x.fst x.snd.fst).snd.snd.fst) =
 true →
 false = true) ∧
 (decide ((least x.fst x.snd.fst).snd.snd.snd.fst < (least x.fst x.snd.fst).snd.snd.fst) =
 false →
 (decide ((least x.fst x.snd.fst).snd.snd.snd.fst > (↑(List.length x.snd.fst) : Int)) =
 true →
 false = true) ∧
 (decide ((least x.fst x.snd.fst).snd.snd.snd.fst > (↑(List.length x.snd.fst) : Int)) =
 false →
 ((0 : Int) ≤ (least x.fst x.snd.fst).snd.snd.fst ∧
 (least x.fst x.snd.fst).snd.snd.fst ≤ (least x.fst x.snd.fst).snd.snd.snd.fst ∧
 (least x.fst x.snd.fst).snd.snd.snd.fst ≤ (↑(List.length x.snd.fst) : Int)) ∧
 (List.length x.fst ≤ (1000 : Nat) ∧
 List.length
 (List.drop (Int.toNat (least x.fst x.snd.fst).snd.snd.fst)
 (List.take (Int.toNat (least x.fst x.snd.fst).snd.snd.snd.fst)
 x.snd.fst)) ≤
 (1000 : Nat)) ∧
 (((apply x.fst (least x.fst x.snd.fst)
 (List.drop (Int.toNat (least x.fst x.snd.fst).snd.snd.fst)
 (List.take (Int.toNat (least x.fst x.snd.fst).snd.snd.snd.fst)
 x.snd.fst))).snd.fst !=
 (0 : Int)) =
 true →
 false = true) ∧
 (((apply x.fst (least x.fst x.snd.fst)
 (List.drop (Int.toNat (least x.fst x.snd.fst).snd.snd.fst)
 (List.take (Int.toNat (least x.fst x.snd.fst).snd.snd.snd.fst)
 x.snd.fst))).snd.fst !=
 (0 : Int)) =
 false →
 (((↑(List.length
 (apply x.fst (least x.fst x.snd.fst)
 (List.drop (Int.toNat (least x.fst x.snd.fst).snd.snd.fst)
 (List.take
 (Int.toNat (least x.fst x.snd.fst).snd.snd.snd.fst)
 x.snd.fst))).fst) :
 Int) !=
 (↑(List.length x.snd.fst) : Int)) =
 true →
 false = true) ∧
 (((↑(List.length
 (apply x.fst (least x.fst x.snd.fst)
 (List.drop (Int.toNat (least x.fst x.snd.fst).snd.snd.fst)
 (List.take
 (Int.toNat (least x.fst x.snd.fst).snd.snd.snd.fst)
 x.snd.fst))).fst) :
 Int) !=
 (↑(List.length x.snd.fst) : Int)) =
 false →
 ((0 : Int) = (0 : Int) ∧
 x.snd.fst = x.snd.fst ∧
 (apply x.fst (least x.fst x.snd.fst)
 (List.drop (Int.toNat (least x.fst x.snd.fst).snd.snd.fst)
 (List.take
 (Int.toNat (least x.fst x.snd.fst).snd.snd.snd.fst)
 x.snd.fst))).fst =
 (apply x.fst (least x.fst x.snd.fst)
 (List.drop (Int.toNat (least x.fst x.snd.fst).snd.snd.fst)
 (List.take
 (Int.toNat (least x.fst x.snd.fst).snd.snd.snd.fst)
 x.snd.fst))).fst ∧
 (↑(List.length
 (apply x.fst (least x.fst x.snd.fst)
 (List.drop
 (Int.toNat (least x.fst x.snd.fst).snd.snd.fst)
 (List.take
 (Int.toNat
 (least x.fst x.snd.fst).snd.snd.snd.fst)
 x.snd.fst))).fst) :
 Int) =
 (↑(List.length
 (apply x.fst (least x.fst x.snd.fst)
 (List.drop
 (Int.toNat (least x.fst x.snd.fst).snd.snd.fst)
 (List.take
 (Int.toNat
 (least x.fst x.snd.fst).snd.snd.snd.fst)
 x.snd.fst))).fst) :
 Int)) ∧
 ∃ (Z : Int × Unit → Prop),
 ∃ (μ : Int × Unit → Nat),
 Z ((0 : Int), ()) ∧
 ∀ (a : Int),
 Z (a, ()) →
 (decide
 (a <
 (↑(List.length
 (apply x.fst (least x.fst x.snd.fst)
 (List.drop
 (Int.toNat
 (least x.fst x.snd.fst).snd.snd.fst)
 (List.take
 (Int.toNat
 (least x.fst
 x.snd.fst).snd.snd.snd.fst)
 x.snd.fst))).fst) :
 Int)) =
 true →
 ((0 : Int) ≤ a ∧
 a <
 (↑(List.length
 (apply x.fst (least x.fst x.snd.fst)
 (List.drop
 (Int.toNat
 (least x.fst x.snd.fst).snd.snd.fst)
 (List.take
 (Int.toNat
 (least x.fst
 x.snd.fst).snd.snd.snd.fst)
 x.snd.fst))).fst) :
 Int)) ∧
 ((0 : Int) ≤ a ∧
 a < (↑(List.length x.snd.fst) : Int)) ∧
 (List.length
 (List.getD
 (apply x.fst (least x.fst x.snd.fst)
 (List.drop
 (Int.toNat
 (least x.fst
 x.snd.fst).snd.snd.fst)
 (List.take
 (Int.toNat
 (least x.fst
 x.snd.fst).snd.snd.snd.fst)
 x.snd.fst))).fst
 (Int.toNat a) (Ty.dflt t24)).fst ≤
 maxLen ∧
 List.length
 (List.getD x.snd.fst (Int.toNat a)
 (Ty.dflt t24)).fst ≤
 maxLen) ∧
 ((!same
 (List.getD
 (apply x.fst (least x.fst x.snd.fst)
 (List.drop
 (Int.toNat
 (least x.fst
 x.snd.fst).snd.snd.fst)
 (List.take
 (Int.toNat
 (least x.fst
 x.snd.fst).snd.snd.snd.fst)
 x.snd.fst))).fst
 (Int.toNat a) (Ty.dflt t24))
 (List.getD x.snd.fst (Int.toNat a)
 (Ty.dflt t24))) =
 true →
 false = true) ∧
 ((!same
 (List.getD
 (apply x.fst (least x.fst x.snd.fst)
 (List.drop
 (Int.toNat
 (least x.fst
 x.snd.fst).snd.snd.fst)
 (List.take
 (Int.toNat
 (least x.fst
 x.snd.fst).snd.snd.snd.fst)
 x.snd.fst))).fst
 (Int.toNat a) (Ty.dflt t24))
 (List.getD x.snd.fst (Int.toNat a)
 (Ty.dflt t24))) =
 false →
 (IntKind.wrap IntKind.i64 (a + (1 : Int)) =
 IntKind.wrap IntKind.i64
 (a + (1 : Int)) ∧
 x.snd.fst = x.snd.fst ∧
 (apply x.fst (least x.fst x.snd.fst)
 (List.drop
 (Int.toNat
 (least x.fst
 x.snd.fst).snd.snd.fst)
 (List.take
 (Int.toNat
 (least x.fst
 x.snd.fst).snd.snd.snd.fst)
 x.snd.fst))).fst =
 (apply x.fst (least x.fst x.snd.fst)
 (List.drop
 (Int.toNat
 (least x.fst
 x.snd.fst).snd.snd.fst)
 (List.take
 (Int.toNat
 (least x.fst
 x.snd.fst).snd.snd.snd.fst)
 x.snd.fst))).fst ∧
 (↑(List.length
 (apply x.fst
 (least x.fst x.snd.fst)
 (List.drop
 (Int.toNat
 (least x.fst
 x.snd.fst).snd.snd.fst)
 (List.take
 (Int.toNat
 (least x.fst
 x.snd.fst).snd.snd.snd.fst)
 x.snd.fst))).fst) :
 Int) =
 (↑(List.length
 (apply x.fst
 (least x.fst x.snd.fst)
 (List.drop
 (Int.toNat
 (least x.fst
 x.snd.fst).snd.snd.fst)
 (List.take
 (Int.toNat
 (least x.fst
 x.snd.fst).snd.snd.snd.fst)
 x.snd.fst))).fst) :
 Int)) ∧
 Z
 (IntKind.wrap IntKind.i64
 (a + (1 : Int)),
 ()) ∧
 μ
 (IntKind.wrap IntKind.i64
 (a + (1 : Int)),
 ()) <
 μ (a, ()))) ∧
 (decide
 (a <
 (↑(List.length
 (apply x.fst (least x.fst x.snd.fst)
 (List.drop
 (Int.toNat
 (least x.fst x.snd.fst).snd.snd.fst)
 (List.take
 (Int.toNat
 (least x.fst
 x.snd.fst).snd.snd.snd.fst)
 x.snd.fst))).fst) :
 Int)) =
 false →
 True ∧ true = true))))))) ∧
 ((!sound x.fst x.snd.fst x.snd.snd.fst) = false →
 (decide (x.snd.snd.fst.snd.snd.fst < (0 : Int)) = true → false = true) ∧
 (decide (x.snd.snd.fst.snd.snd.fst < (0 : Int)) = false →
 (decide (x.snd.snd.fst.snd.snd.snd.fst < x.snd.snd.fst.snd.snd.fst) = true → false = true) ∧
 (decide (x.snd.snd.fst.snd.snd.snd.fst < x.snd.snd.fst.snd.snd.fst) = false →
 (decide (x.snd.snd.fst.snd.snd.snd.fst > (↑(List.length x.snd.fst) : Int)) = true →
 false = true) ∧
 (decide (x.snd.snd.fst.snd.snd.snd.fst > (↑(List.length x.snd.fst) : Int)) = false →
 ((0 : Int) ≤ x.snd.snd.fst.snd.snd.fst ∧
 x.snd.snd.fst.snd.snd.fst ≤ x.snd.snd.fst.snd.snd.snd.fst ∧
 x.snd.snd.fst.snd.snd.snd.fst ≤ (↑(List.length x.snd.fst) : Int)) ∧
 (List.length x.fst ≤ (1000 : Nat) ∧
 List.length
 (List.drop (Int.toNat x.snd.snd.fst.snd.snd.fst)
 (List.take (Int.toNat x.snd.snd.fst.snd.snd.snd.fst) x.snd.fst)) ≤
 (1000 : Nat)) ∧
 (((apply x.fst x.snd.snd.fst
 (List.drop (Int.toNat x.snd.snd.fst.snd.snd.fst)
 (List.take (Int.toNat x.snd.snd.fst.snd.snd.snd.fst)
 x.snd.fst))).snd.fst !=
 (0 : Int)) =
 true →
 false = true) ∧
 (((apply x.fst x.snd.snd.fst
 (List.drop (Int.toNat x.snd.snd.fst.snd.snd.fst)
 (List.take (Int.toNat x.snd.snd.fst.snd.snd.snd.fst)
 x.snd.fst))).snd.fst !=
 (0 : Int)) =
 false →
 (((↑(List.length
 (apply x.fst x.snd.snd.fst
 (List.drop (Int.toNat x.snd.snd.fst.snd.snd.fst)
 (List.take (Int.toNat x.snd.snd.fst.snd.snd.snd.fst)
 x.snd.fst))).fst) :
 Int) !=
 (↑(List.length x.snd.fst) : Int)) =
 true →
 false = true) ∧
 (((↑(List.length
 (apply x.fst x.snd.snd.fst
 (List.drop (Int.toNat x.snd.snd.fst.snd.snd.fst)
 (List.take (Int.toNat x.snd.snd.fst.snd.snd.snd.fst)
 x.snd.fst))).fst) :
 Int) !=
 (↑(List.length x.snd.fst) : Int)) =
 false →
 ((0 : Int) = (0 : Int) ∧
 x.snd.fst = x.snd.fst ∧
 (apply x.fst x.snd.snd.fst
 (List.drop (Int.toNat x.snd.snd.fst.snd.snd.fst)
 (List.take (Int.toNat x.snd.snd.fst.snd.snd.snd.fst)
 x.snd.fst))).fst =
 (apply x.fst x.snd.snd.fst
 (List.drop (Int.toNat x.snd.snd.fst.snd.snd.fst)
 (List.take (Int.toNat x.snd.snd.fst.snd.snd.snd.fst)
 x.snd.fst))).fst ∧
 (↑(List.length
 (apply x.fst x.snd.snd.fst
 (List.drop (Int.toNat x.snd.snd.fst.snd.snd.fst)
 (List.take (Int.toNat x.snd.snd.fst.snd.snd.snd.fst)
 x.snd.fst))).fst) :
 Int) =
 (↑(List.length
 (apply x.fst x.snd.snd.fst
 (List.drop (Int.toNat x.snd.snd.fst.snd.snd.fst)
 (List.take (Int.toNat x.snd.snd.fst.snd.snd.snd.fst)
 x.snd.fst))).fst) :
 Int)) ∧
 ∃ (Z : Int × Unit → Prop),
 ∃ (μ : Int × Unit → Nat),
 Z ((0 : Int), ()) ∧
 ∀ (a : Int),
 Z (a, ()) →
 (decide
 (a <
 (↑(List.length
 (apply x.fst x.snd.snd.fst
 (List.drop
 (Int.toNat x.snd.snd.fst.snd.snd.fst)
 (List.take
 (Int.toNat
 x.snd.snd.fst.snd.snd.snd.fst)
 x.snd.fst))).fst) :
 Int)) =
 true →
 ((0 : Int) ≤ a ∧
 a <
 (↑(List.length
 (apply x.fst x.snd.snd.fst
 (List.drop
 (Int.toNat x.snd.snd.fst.snd.snd.fst)
 (List.take
 (Int.toNat
 x.snd.snd.fst.snd.snd.snd.fst)
 x.snd.fst))).fst) :
 Int)) ∧
 ((0 : Int) ≤ a ∧ a < (↑(List.length x.snd.fst) : Int)) ∧
 (List.length
 (List.getD
 (apply x.fst x.snd.snd.fst
 (List.drop
 (Int.toNat
 x.snd.snd.fst.snd.snd.fst)
 (List.take
 (Int.toNat
 x.snd.snd.fst.snd.snd.snd.fst)
 x.snd.fst))).fst
 (Int.toNat a) (Ty.dflt t24)).fst ≤
 maxLen ∧
 List.length
 (List.getD x.snd.fst (Int.toNat a)
 (Ty.dflt t24)).fst ≤
 maxLen) ∧
 ((!same
 (List.getD
 (apply x.fst x.snd.snd.fst
 (List.drop
 (Int.toNat
 x.snd.snd.fst.snd.snd.fst)
 (List.take
 (Int.toNat
 x.snd.snd.fst.snd.snd.snd.fst)
 x.snd.fst))).fst
 (Int.toNat a) (Ty.dflt t24))
 (List.getD x.snd.fst (Int.toNat a)
 (Ty.dflt t24))) =
 true →
 false = true) ∧
 ((!same
 (List.getD
 (apply x.fst x.snd.snd.fst
 (List.drop
 (Int.toNat
 x.snd.snd.fst.snd.snd.fst)
 (List.take
 (Int.toNat
 x.snd.snd.fst.snd.snd.snd.fst)
 x.snd.fst))).fst
 (Int.toNat a) (Ty.dflt t24))
 (List.getD x.snd.fst (Int.toNat a)
 (Ty.dflt t24))) =
 false →
 (IntKind.wrap IntKind.i64 (a + (1 : Int)) =
 IntKind.wrap IntKind.i64 (a + (1 : Int)) ∧
 x.snd.fst = x.snd.fst ∧
 (apply x.fst x.snd.snd.fst
 (List.drop
 (Int.toNat
 x.snd.snd.fst.snd.snd.fst)
 (List.take
 (Int.toNat
 x.snd.snd.fst.snd.snd.snd.fst)
 x.snd.fst))).fst =
 (apply x.fst x.snd.snd.fst
 (List.drop
 (Int.toNat
 x.snd.snd.fst.snd.snd.fst)
 (List.take
 (Int.toNat
 x.snd.snd.fst.snd.snd.snd.fst)
 x.snd.fst))).fst ∧
 (↑(List.length
 (apply x.fst x.snd.snd.fst
 (List.drop
 (Int.toNat
 x.snd.snd.fst.snd.snd.fst)
 (List.take
 (Int.toNat
 x.snd.snd.fst.snd.snd.snd.fst)
 x.snd.fst))).fst) :
 Int) =
 (↑(List.length
 (apply x.fst x.snd.snd.fst
 (List.drop
 (Int.toNat
 x.snd.snd.fst.snd.snd.fst)
 (List.take
 (Int.toNat
 x.snd.snd.fst.snd.snd.snd.fst)
 x.snd.fst))).fst) :
 Int)) ∧
 Z
 (IntKind.wrap IntKind.i64 (a + (1 : Int)),
 ()) ∧
 μ
 (IntKind.wrap IntKind.i64
 (a + (1 : Int)),
 ()) <
 μ (a, ()))) ∧
 (decide
 (a <
 (↑(List.length
 (apply x.fst x.snd.snd.fst
 (List.drop
 (Int.toNat x.snd.snd.fst.snd.snd.fst)
 (List.take
 (Int.toNat
 x.snd.snd.fst.snd.snd.snd.fst)
 x.snd.fst))).fst) :
 Int)) =
 false →
 True ∧ true = true)))))))))
theorem vcEq8 : fnVC E8 Try.f8 (bodyOf Try.f8) cDiffBack = vc8 := by kernel_rfl
/- fn 19 -/
def hs19 : List (Nat × Nat × Hint) := []
def nm19 : List Nat := []
noncomputable def E19 : Env := env tab [(12, cFits), (30, cConcat)] [] noGl hs19 nm19
def vc19 : Prop :=
 ∀
 (x :
 List Row ×
 (Int × Int × Int × Int × Unit) ×
 List Row × Unit),
 List.length x.fst ≤ (1000 : Nat) ∧ List.length x.snd.snd.fst ≤ (1000 : Nat) →
 (decide (x.snd.fst.fst < (0 : Int)) = true → ([], (1 : Int), ()) = apply x.fst x.snd.fst x.snd.snd.fst) ∧
 (decide (x.snd.fst.fst < (0 : Int)) = false →
 (decide (x.snd.fst.snd.fst < x.snd.fst.fst) = true →
 ([], (1 : Int), ()) = apply x.fst x.snd.fst x.snd.snd.fst) ∧
 (decide (x.snd.fst.snd.fst < x.snd.fst.fst) = false →
 (decide (x.snd.fst.snd.fst > (↑(List.length x.fst) : Int)) = true →
 ([], (1 : Int), ()) = apply x.fst x.snd.fst x.snd.snd.fst) ∧
 (decide (x.snd.fst.snd.fst > (↑(List.length x.fst) : Int)) = false →
 ((↑(List.length x.fst) : Int) ≤ (9223372036854775807 : Int) ∧
 IntKind.wrap IntKind.i64
 (IntKind.wrap IntKind.i64
 ((↑(List.length x.fst) : Int) -
 IntKind.wrap IntKind.i64 (x.snd.fst.snd.fst - x.snd.fst.fst)) +
 (↑(List.length x.snd.snd.fst) : Int)) ≤
 (9223372036854775807 : Int)) ∧
 ((!fits x.snd.fst (↑(List.length x.fst) : Int)
 (IntKind.wrap IntKind.i64
 (IntKind.wrap IntKind.i64
 ((↑(List.length x.fst) : Int) -
 IntKind.wrap IntKind.i64 (x.snd.fst.snd.fst - x.snd.fst.fst)) +
 (↑(List.length x.snd.snd.fst) : Int)))) =
 true →
 ([], (1 : Int), ()) = apply x.fst x.snd.fst x.snd.snd.fst) ∧
 ((!fits x.snd.fst (↑(List.length x.fst) : Int)
 (IntKind.wrap IntKind.i64
 (IntKind.wrap IntKind.i64
 ((↑(List.length x.fst) : Int) -
 IntKind.wrap IntKind.i64 (x.snd.fst.snd.fst - x.snd.fst.fst)) +
 (↑(List.length x.snd.snd.fst) : Int)))) =
 false →
 ((0 : Int) ≤ x.snd.fst.fst ∧ x.snd.fst.fst ≤ (↑(List.length x.fst) : Int)) ∧
 ((0 : Int) ≤ x.snd.fst.snd.fst ∧ x.snd.fst.snd.fst ≤ (↑(List.length x.fst) : Int)) ∧
 (List.length
 [List.take (Int.toNat x.snd.fst.fst) x.fst, x.snd.snd.fst,
 List.drop (Int.toNat x.snd.fst.snd.fst) x.fst] ≤
 (3 : Nat) ∧
 ∀ (l : Ty.den t30),
 l ∈
 ([List.take (Int.toNat x.snd.fst.fst) x.fst, x.snd.snd.fst,
 List.drop (Int.toNat x.snd.fst.snd.fst) x.fst],
 ()).fst →
 List.length l ≤ (1000 : Nat)) ∧
 (List.flatten
 [List.take (Int.toNat x.snd.fst.fst) x.fst, x.snd.snd.fst,
 List.drop (Int.toNat x.snd.fst.snd.fst) x.fst],
 (0 : Int), ()) =
 apply x.fst x.snd.fst x.snd.snd.fst))))
theorem vcEq19 : fnVC E19 Try.f19 (bodyOf Try.f19) cApply = vc19 := by kernel_rfl
/- fn 20 -/
def hs20 : List (Nat × Nat × Hint) := [(0, 2, ⟨[.slot 8 t3], [0, 1, 7], [], []⟩)]
def nm20 : List Nat := []
noncomputable def E20 : Env := env tab [(31, cPRow)] [] noGl hs20 nm20
def vc20 : Prop :=
 ∀
 (x :
 List Row ×
 List Row × Unit),
 rows x.fst ∧ rows x.snd.fst →
 ((0 : Int) = (0 : Int) ∧
 x.fst = x.fst ∧ x.snd.fst = x.snd.fst ∧ (↑(List.length x.fst) : Int) = (↑(List.length x.fst) : Int)) ∧
 ∃ (Z : Int × Unit → Prop),
 ∃ (μ : Int × Unit → Nat),
 Z ((0 : Int), ()) ∧
 ∀ (a : Int),
 Z (a, ()) →
 (decide (a < (↑(List.length x.fst) : Int)) = true →
 (decide (a ≥ (↑(List.length x.snd.fst) : Int)) = true → false = all2 rowEq x.fst x.snd.fst) ∧
 (decide (a ≥ (↑(List.length x.snd.fst) : Int)) = false →
 ((0 : Int) ≤ a ∧ a < (↑(List.length x.fst) : Int)) ∧
 ((0 : Int) ≤ a ∧ a < (↑(List.length x.snd.fst) : Int)) ∧
 (List.length (List.getD x.fst (Int.toNat a) (Ty.dflt t24)).fst ≤ maxLen ∧
 List.length (List.getD x.snd.fst (Int.toNat a) (Ty.dflt t24)).fst ≤ maxLen) ∧
 ((!rowEq (List.getD x.fst (Int.toNat a) (Ty.dflt t24))
 (List.getD x.snd.fst (Int.toNat a) (Ty.dflt t24))) =
 true →
 false = all2 rowEq x.fst x.snd.fst) ∧
 ((!rowEq (List.getD x.fst (Int.toNat a) (Ty.dflt t24))
 (List.getD x.snd.fst (Int.toNat a) (Ty.dflt t24))) =
 false →
 (IntKind.wrap IntKind.i64 (a + (1 : Int)) = IntKind.wrap IntKind.i64 (a + (1 : Int)) ∧
 x.fst = x.fst ∧
 x.snd.fst = x.snd.fst ∧
 (↑(List.length x.fst) : Int) = (↑(List.length x.fst) : Int)) ∧
 Z (IntKind.wrap IntKind.i64 (a + (1 : Int)), ()) ∧
 μ (IntKind.wrap IntKind.i64 (a + (1 : Int)), ()) < μ (a, ())))) ∧
 (decide (a < (↑(List.length x.fst) : Int)) = false →
 ((↑(List.length x.fst) : Int) == (↑(List.length x.snd.fst) : Int)) = all2 rowEq x.fst x.snd.fst)
theorem vcEq20 : fnVC E20 Try.f20 (bodyOf Try.f20) cRows = vc20 := by kernel_rfl
/- fn 30 -/
def hs30 : List (Nat × Nat × Hint) := [(0, 3, ⟨[.slot 3 t3, .slot 11 t3], [0, 9, 10], [], []⟩),
  (0, 11, ⟨[.rowS 6 900000006 t24 24, .slot 27 t3], [25, 26], [], []⟩)]
def nm30 : List Nat := [2000330061]
noncomputable def E30 : Env := env tab [] [(32, Try.f32)] noGl hs30 nm30
def vc30 : Prop :=
 ∀ (x : List (List Row) × Unit),
 (List.length x.fst ≤ (3 : Nat) ∧ ∀ (l : Ty.den t30), l ∈ x.fst → List.length l ≤ (1000 : Nat)) →
 ((0 : Int) = (0 : Int) ∧
 (0 : Int) = (0 : Int) ∧
 x.fst = x.fst ∧ x.fst = x.fst ∧ (↑(List.length x.fst) : Int) = (↑(List.length x.fst) : Int)) ∧
 ∃ (Z : Int × Int × Unit → Prop),
 ∃ (μ : Int × Int × Unit → Nat),
 Z ((0 : Int), (0 : Int), ()) ∧
 ∀ (a a_1 : Int),
 Z (a, a_1, ()) →
 (decide (a_1 < (↑(List.length x.fst) : Int)) = true →
 ((0 : Int) ≤ a_1 ∧ a_1 < (↑(List.length x.fst) : Int)) ∧
 (decide
 (IntKind.wrap IntKind.i64
 (a + (↑(List.length (List.getD x.fst (Int.toNat a_1) (Ty.dflt t30))) : Int)) <
 (0 : Int)) =
 true →
 False) ∧
 (decide
 (IntKind.wrap IntKind.i64
 (a + (↑(List.length (List.getD x.fst (Int.toNat a_1) (Ty.dflt t30))) : Int)) <
 (0 : Int)) =
 false →
 (IntKind.wrap IntKind.i64 (a_1 + (1 : Int)) = IntKind.wrap IntKind.i64 (a_1 + (1 : Int)) ∧
 IntKind.wrap IntKind.i64
 (a + (↑(List.length (List.getD x.fst (Int.toNat a_1) (Ty.dflt t30))) : Int)) =
 IntKind.wrap IntKind.i64
 (a + (↑(List.length (List.getD x.fst (Int.toNat a_1) (Ty.dflt t30))) : Int)) ∧
 x.fst = x.fst ∧
 x.fst = x.fst ∧ (↑(List.length x.fst) : Int) = (↑(List.length x.fst) : Int)) ∧
 Z
 (IntKind.wrap IntKind.i64
 (a + (↑(List.length (List.getD x.fst (Int.toNat a_1) (Ty.dflt t30))) : Int)),
 IntKind.wrap IntKind.i64 (a_1 + (1 : Int)), ()) ∧
 μ
 (IntKind.wrap IntKind.i64
 (a + (↑(List.length (List.getD x.fst (Int.toNat a_1) (Ty.dflt t30))) : Int)),
 IntKind.wrap IntKind.i64 (a_1 + (1 : Int)), ()) <
 μ (a, a_1, ()))) ∧
 (decide (a_1 < (↑(List.length x.fst) : Int)) = false →
 (decide (a < (0 : Int)) = true → False) ∧
 (decide (a < (0 : Int)) = false →
 (decide
 (IntKind.wrap IntKind.i64 (a - IntKind.wrap IntKind.i64 ((0 : Int) - (0 : Int))) >
 (0 : Int)) =
 true →
 (True ∧ (0 : Int) = (0 : Int)) ∧
 ((0 : Int) ≤
 IntKind.wrap IntKind.i64 (a - IntKind.wrap IntKind.i64 ((0 : Int) - (0 : Int))) ∧
 IntKind.wrap IntKind.i64 (a - IntKind.wrap IntKind.i64 ((0 : Int) - (0 : Int))) ≤
 (4611686018427387904 : Int)) ∧
 ((0 : Nat) +
 List.length
 (List.replicate
 (Int.toNat
 (IntKind.wrap IntKind.i64
 (a - IntKind.wrap IntKind.i64 ((0 : Int) - (0 : Int)))))
 (([], 0, 0, 0, false, false, 0, ()) : Row))) *
 (64 : Nat) ≤
 (140737488355328 : Nat) ∧
 (0 : Nat) +
 List.length
 (List.replicate
 (Int.toNat
 (IntKind.wrap IntKind.i64
 (a - IntKind.wrap IntKind.i64 ((0 : Int) - (0 : Int)))))
 (([], 0, 0, 0, false, false, 0, ()) : Row)) ≤
 maxLen ∧
 ((0 : Int) ≤ (0 : Int) ∧
 (0 : Int) ≤
 (↑(List.length
 ([] ++
 List.replicate
 (Int.toNat
 (IntKind.wrap IntKind.i64
 (a - IntKind.wrap IntKind.i64 ((0 : Int) - (0 : Int)))))
 (([], 0, 0, 0, false, false, 0, ()) : Row))) :
 Int)) ∧
 (((0 : Int) = (0 : Int) ∧
 True ∧
 x.fst = x.fst ∧
 (↑(List.length x.fst) : Int) = (↑(List.length x.fst) : Int)) ∧
 List.take (Int.toNat (0 : Int))
 ([] ++
 List.replicate
 (Int.toNat
 (IntKind.wrap IntKind.i64
 (a - IntKind.wrap IntKind.i64 ((0 : Int) - (0 : Int)))))
 (([], 0, 0, 0, false, false, 0, ()) : Row)) =
 List.take (Int.toNat (0 : Int))
 ([] ++
 List.replicate
 (Int.toNat
 (IntKind.wrap IntKind.i64
 (a - IntKind.wrap IntKind.i64 ((0 : Int) - (0 : Int)))))
 (([], 0, 0, 0, false, false, 0, ()) : Row)) ∧
 True) ∧
 ∃ (Z :
 List
 (List (Int × Int × Int × Int × Unit) ×
 Int × Int × Int × Bool × Bool × Int × Unit) ×
 Int × Unit →
 Prop),
 ∃ (μ :
 List
 (List (Int × Int × Int × Int × Unit) ×
 Int × Int × Int × Bool × Bool × Int × Unit) ×
 Int × Unit →
 Nat),
 Z
 (List.take (Int.toNat (0 : Int))
 ([] ++
 List.replicate
 (Int.toNat
 (IntKind.wrap IntKind.i64
 (a - IntKind.wrap IntKind.i64 ((0 : Int) - (0 : Int)))))
 (([], 0, 0, 0, false, false, 0, ()) : Row)),
 (0 : Int), ()) ∧
 ∀
 (a :
 List
 (List (Int × Int × Int × Int × Unit) ×
 Int × Int × Int × Bool × Bool × Int × Unit))
 (a_6 : Int),
 Z (a, a_6, ()) →
 (decide (a_6 < (↑(List.length x.fst) : Int)) = true →
 ((0 : Int) ≤ a_6 ∧ a_6 < (↑(List.length x.fst) : Int)) ∧
 (List.length a +
 List.length
 (List.getD x.fst (Int.toNat a_6) (Ty.dflt t30))) *
 (64 : Nat) ≤
 (140737488355328 : Nat) ∧
 List.length a +
 List.length
 (List.getD x.fst (Int.toNat a_6) (Ty.dflt t30)) ≤
 maxLen ∧
 ((IntKind.wrap IntKind.i64 (a_6 + (1 : Int)) =
 IntKind.wrap IntKind.i64 (a_6 + (1 : Int)) ∧
 True ∧
 x.fst = x.fst ∧
 (↑(List.length x.fst) : Int) =
 (↑(List.length x.fst) : Int)) ∧
 a ++ List.getD x.fst (Int.toNat a_6) (Ty.dflt t30) =
 a ++ List.getD x.fst (Int.toNat a_6) (Ty.dflt t30) ∧
 True) ∧
 Z
 (a ++ List.getD x.fst (Int.toNat a_6) (Ty.dflt t30),
 IntKind.wrap IntKind.i64 (a_6 + (1 : Int)), ()) ∧
 μ
 (a ++ List.getD x.fst (Int.toNat a_6) (Ty.dflt t30),
 IntKind.wrap IntKind.i64 (a_6 + (1 : Int)), ()) <
 μ (a, a_6, ())) ∧
 (decide (a_6 < (↑(List.length x.fst) : Int)) = false →
 a = List.flatten x.fst)) ∧
 (decide
 (IntKind.wrap IntKind.i64 (a - IntKind.wrap IntKind.i64 ((0 : Int) - (0 : Int))) >
 (0 : Int)) =
 false →
 (((0 : Int) = (0 : Int) ∧
 True ∧ x.fst = x.fst ∧ (↑(List.length x.fst) : Int) = (↑(List.length x.fst) : Int)) ∧
 True ∧ True) ∧
 ∃ (Z :
 List
 (List (Int × Int × Int × Int × Unit) ×
 Int × Int × Int × Bool × Bool × Int × Unit) ×
 Int × Unit →
 Prop),
 ∃ (μ :
 List
 (List (Int × Int × Int × Int × Unit) ×
 Int × Int × Int × Bool × Bool × Int × Unit) ×
 Int × Unit →
 Nat),
 Z ([], (0 : Int), ()) ∧
 ∀
 (a :
 List
 (List (Int × Int × Int × Int × Unit) ×
 Int × Int × Int × Bool × Bool × Int × Unit))
 (a_5 : Int),
 Z (a, a_5, ()) →
 (decide (a_5 < (↑(List.length x.fst) : Int)) = true →
 ((0 : Int) ≤ a_5 ∧ a_5 < (↑(List.length x.fst) : Int)) ∧
 (List.length a +
 List.length (List.getD x.fst (Int.toNat a_5) (Ty.dflt t30))) *
 (64 : Nat) ≤
 (140737488355328 : Nat) ∧
 List.length a +
 List.length (List.getD x.fst (Int.toNat a_5) (Ty.dflt t30)) ≤
 maxLen ∧
 ((IntKind.wrap IntKind.i64 (a_5 + (1 : Int)) =
 IntKind.wrap IntKind.i64 (a_5 + (1 : Int)) ∧
 True ∧
 x.fst = x.fst ∧
 (↑(List.length x.fst) : Int) =
 (↑(List.length x.fst) : Int)) ∧
 a ++ List.getD x.fst (Int.toNat a_5) (Ty.dflt t30) =
 a ++ List.getD x.fst (Int.toNat a_5) (Ty.dflt t30) ∧
 True) ∧
 Z
 (a ++ List.getD x.fst (Int.toNat a_5) (Ty.dflt t30),
 IntKind.wrap IntKind.i64 (a_5 + (1 : Int)), ()) ∧
 μ
 (a ++ List.getD x.fst (Int.toNat a_5) (Ty.dflt t30),
 IntKind.wrap IntKind.i64 (a_5 + (1 : Int)), ()) <
 μ (a, a_5, ())) ∧
 (decide (a_5 < (↑(List.length x.fst) : Int)) = false →
 a = List.flatten x.fst))))
theorem vcEq30 : fnVC E30 Try.f30 (bodyOf Try.f30) cConcat = vc30 := by kernel_rfl
/- fn 31 -/
def hs31 : List (Nat × Nat × Hint) := []
def nm31 : List Nat := []
noncomputable def E31 : Env := env tab [(33, cPCells)] [] noGl hs31 nm31
def vc31 : Prop :=
 ∀
 (x :
 Row ×
 Row × Unit),
 List.length x.fst.fst ≤ maxLen ∧ List.length x.snd.fst.fst ≤ maxLen →
 (List.length x.fst.fst ≤ maxLen ∧ List.length x.snd.fst.fst ≤ maxLen) ∧
 (all2 cellEq x.fst.fst x.snd.fst.fst = true →
 ((x.fst.snd.fst == x.snd.fst.snd.fst) = true →
 ((x.fst.snd.snd.fst == x.snd.fst.snd.snd.fst) = true →
 ((x.fst.snd.snd.snd.fst == x.snd.fst.snd.snd.snd.fst) = true →
 (Ty.beq t4 x.fst.snd.snd.snd.snd.fst x.snd.fst.snd.snd.snd.snd.fst = true →
 (Ty.beq t4 x.fst.snd.snd.snd.snd.snd.fst x.snd.fst.snd.snd.snd.snd.snd.fst = true →
 (x.fst.snd.snd.snd.snd.snd.snd.fst == x.snd.fst.snd.snd.snd.snd.snd.snd.fst) =
 rowEq x.fst x.snd.fst) ∧
 (Ty.beq t4 x.fst.snd.snd.snd.snd.snd.fst x.snd.fst.snd.snd.snd.snd.snd.fst = false →
 false = rowEq x.fst x.snd.fst)) ∧
 (Ty.beq t4 x.fst.snd.snd.snd.snd.fst x.snd.fst.snd.snd.snd.snd.fst = false →
 false = rowEq x.fst x.snd.fst)) ∧
 ((x.fst.snd.snd.snd.fst == x.snd.fst.snd.snd.snd.fst) = false → false = rowEq x.fst x.snd.fst)) ∧
 ((x.fst.snd.snd.fst == x.snd.fst.snd.snd.fst) = false → false = rowEq x.fst x.snd.fst)) ∧
 ((x.fst.snd.fst == x.snd.fst.snd.fst) = false → false = rowEq x.fst x.snd.fst)) ∧
 (all2 cellEq x.fst.fst x.snd.fst.fst = false → false = rowEq x.fst x.snd.fst)
theorem vcEq31 : fnVC E31 Try.f31 (bodyOf Try.f31) cPRow = vc31 := by kernel_rfl
/- fn 33 -/
def hs33 : List (Nat × Nat × Hint) := [(0, 2, ⟨[.slot 8 t3], [0, 1, 7], [], []⟩)]
def nm33 : List Nat := []
noncomputable def E33 : Env := env tab [] [] noGl hs33 nm33
def vc33 : Prop :=
 ∀ (x : List (Int × Int × Int × Int × Unit) × List (Int × Int × Int × Int × Unit) × Unit),
 List.length x.fst ≤ maxLen ∧ List.length x.snd.fst ≤ maxLen →
 ((0 : Int) = (0 : Int) ∧
 x.fst = x.fst ∧ x.snd.fst = x.snd.fst ∧ (↑(List.length x.fst) : Int) = (↑(List.length x.fst) : Int)) ∧
 ∃ (Z : Int × Unit → Prop),
 ∃ (μ : Int × Unit → Nat),
 Z ((0 : Int), ()) ∧
 ∀ (a : Int),
 Z (a, ()) →
 (decide (a < (↑(List.length x.fst) : Int)) = true →
 (decide (a ≥ (↑(List.length x.snd.fst) : Int)) = true → false = all2 cellEq x.fst x.snd.fst) ∧
 (decide (a ≥ (↑(List.length x.snd.fst) : Int)) = false →
 ((0 : Int) ≤ a ∧ a < (↑(List.length x.fst) : Int)) ∧
 ((0 : Int) ≤ a ∧ a < (↑(List.length x.snd.fst) : Int)) ∧
 ((!Ty.beq t41 (List.getD x.fst (Int.toNat a) (Ty.dflt t41))
 (List.getD x.snd.fst (Int.toNat a) (Ty.dflt t41))) =
 true →
 false = all2 cellEq x.fst x.snd.fst) ∧
 ((!Ty.beq t41 (List.getD x.fst (Int.toNat a) (Ty.dflt t41))
 (List.getD x.snd.fst (Int.toNat a) (Ty.dflt t41))) =
 false →
 (IntKind.wrap IntKind.i64 (a + (1 : Int)) = IntKind.wrap IntKind.i64 (a + (1 : Int)) ∧
 x.fst = x.fst ∧
 x.snd.fst = x.snd.fst ∧
 (↑(List.length x.fst) : Int) = (↑(List.length x.fst) : Int)) ∧
 Z (IntKind.wrap IntKind.i64 (a + (1 : Int)), ()) ∧
 μ (IntKind.wrap IntKind.i64 (a + (1 : Int)), ()) < μ (a, ())))) ∧
 (decide (a < (↑(List.length x.fst) : Int)) = false →
 ((↑(List.length x.fst) : Int) == (↑(List.length x.snd.fst) : Int)) = all2 cellEq x.fst x.snd.fst)
theorem vcEq33 : fnVC E33 Try.f33 (bodyOf Try.f33) cPCells = vc33 := by kernel_rfl
end Go.Fr.C25
