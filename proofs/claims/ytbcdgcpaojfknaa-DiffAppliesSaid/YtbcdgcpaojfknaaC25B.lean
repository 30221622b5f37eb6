/-
  Chapter 25: further contracts: rows in the place of others. Conditions: none.
-/
import Derived.Test.YtbcdgcpaojfknaaC25A
namespace Go.Fr.C25
open Go Go.Fr Go.Proofs
def apOk (a : List Row) (p : RP) (b : List Row) : Bool := decide (0 ≤ p.1 ∧ p.1 ≤ p.2.1 ∧ p.2.1 ≤ (a.length : Int)) && fits p a.length ((a.length : Int) - (p.2.1 - p.1) + b.length)
def apply (a : List Row) (p : RP) (b : List Row) : List Row × Int × Unit := if apOk a p b then (a.take p.1.toNat ++ (b ++ a.drop p.2.1.toNat), 0, ()) else ([], 1, ())
def cellEq (a b : Cell) : Bool := t41.beq a b
def rowEq (a b : Row) : Bool := all2 cellEq a.1 b.1 && (decide (a.2.1 = b.2.1) && (decide (a.2.2.1 = b.2.2.1) && (decide (a.2.2.2.1 = b.2.2.2.1) && ((a.2.2.2.2.1 == b.2.2.2.2.1) && ((a.2.2.2.2.2.1 == b.2.2.2.2.2.1) && decide (a.2.2.2.2.2.2.1 = b.2.2.2.2.2.2.1))))))
def cConcat : Contract := { arg := .pair t48 .unit, res := t30, one := true, pre := fun x => x.1.length ≤ 3 ∧ ∀ l ∈ x.1, l.length ≤ 1000, fn := fun x => List.flatten x.1 }
def cApply : Contract := { arg := .pair t30 (.pair t28 (.pair t30 .unit)), res := .pair t30 (.pair t35 .unit), one := false, pre := fun x => List.length x.1 ≤ 1000 ∧ List.length x.2.2.1 ≤ 1000, fn := fun x => apply x.1 x.2.1 x.2.2.1 }
def cPCells : Contract := { arg := .pair t22 (.pair t22 .unit), res := .bool, one := true, pre := fun x => x.1.length ≤ maxLen ∧ x.2.1.length ≤ maxLen, fn := fun x => all2 cellEq x.1 x.2.1 }
def cPRow : Contract := { arg := .pair t24 (.pair t24 .unit), res := .bool, one := true, pre := fun x => x.1.1.length ≤ maxLen ∧ x.2.1.1.length ≤ maxLen, fn := fun x => rowEq x.1 x.2.1 }
def cRows : Contract := { arg := .pair t30 (.pair t30 .unit), res := .bool, one := true, pre := fun x => rows x.1 ∧ rows x.2.1, fn := fun x => all2 rowEq x.1 x.2.1 }
def rowsS (l : List Row) : Prop := l.length ≤ 140737488355328 ∧ ∀ r ∈ l, r.1.length ≤ 140737488355328
def cDiffApplies : Contract := lawC (.pair t30 (.pair t30 (.pair t28 .unit))) (fun x => rowsS x.1 ∧ rowsS x.2.1)
def cDiffBack : Contract := lawC (.pair t30 (.pair t30 (.pair t28 .unit))) (fun x => rowsS x.1 ∧ rowsS x.2.1)
end Go.Fr.C25
