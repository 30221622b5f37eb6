/-
  Chapter 25: types, what the functions compute, their contracts. Conditions: none.
-/
import Derived.Test.YtbcdgcpaojfknaaFrY
import Derived.Test.YtbcdgcpaojfknaaProg
namespace Go.Fr.C25
open Go Go.Fr Go.Proofs
abbrev t3 : Ty := .int .i64
abbrev t4 : Ty := .bool
abbrev t21 : Ty := .int .i32
abbrev t41 : Ty := .pair t21 (.pair t3 (.pair t3 (.pair t3 .unit)))
abbrev t22 : Ty := .sl t41
abbrev t24 : Ty := .pair t22 (.pair t3 (.pair t3 (.pair t3 (.pair t4 (.pair t4 (.pair t3 .unit))))))
abbrev t28 : Ty := .pair t3 (.pair t3 (.pair t3 (.pair t3 .unit)))
abbrev t30 : Ty := .sl t24
abbrev t35 : Ty := .int .i64
abbrev t48 : Ty := .sl t30
def tab : List (TypeId × TI) := [
  (3, ⟨.int .i64, 1, 8, [.tv (.int .i64) (0 : Int)], some t3⟩),
  (4, ⟨.bool, 1, 1, [.blit false], some t4⟩),
  (21, ⟨.int .i32, 1, 4, [.tv (.int .i32) (0 : Int)], some t21⟩),
  (41, ⟨.struct [(0, 1, false), (1, 1, false), (2, 1, false), (3, 1, false)], 4, 32, [.tv (.int .i32) (0 : Int), .tv (.int .i64) (0 : Int), .tv (.int .i64) (0 : Int), .tv (.int .i64) (0 : Int)], some t41⟩),
  (22, ⟨.slice 41, 1, 24, [.raw (.slice none 0 0)], some t22⟩),
  (24, ⟨.struct [(0, 1, false), (1, 1, false), (2, 1, false), (3, 1, false), (4, 1, false), (5, 1, false), (6, 1, false)], 7, 64, [.raw (.slice none 0 0), .tv (.int .i64) (0 : Int), .tv (.int .i64) (0 : Int), .tv (.int .i64) (0 : Int), .blit false, .blit false, .tv (.int .i64) (0 : Int)], some t24⟩),
  (28, ⟨.struct [(0, 1, false), (1, 1, false), (2, 1, false), (3, 1, false)], 4, 32, [.tv (.int .i64) (0 : Int), .tv (.int .i64) (0 : Int), .tv (.int .i64) (0 : Int), .tv (.int .i64) (0 : Int)], some t28⟩),
  (30, ⟨.slice 24, 1, 24, [.raw (.slice none 0 0)], some t30⟩),
  (35, ⟨.int .i64, 1, 8, [.tv (.int .i64) (0 : Int)], some t35⟩),
  (48, ⟨.slice 30, 1, 24, [.raw (.slice none 0 0)], some t48⟩)]
theorem tab_ok : tabOk Try.prog tab = true := by kernel_rfl
theorem mixed : Try.prog.follows .mixedOrders = true := by kernel_rfl
abbrev Cell := Int × Int × Int × Int × Unit
abbrev Row := List Cell × Int × Int × Int × Bool × Bool × Int × Unit
abbrev RP := Int × Int × Int × Int × Unit
def alike (a b : Cell) : Bool := decide (a.1 = b.1) && (decide (a.2.1 = b.2.1) && decide (a.2.2.1 = b.2.2.1))
def same (a b : Row) : Bool := (a.2.2.2.2.1 == b.2.2.2.2.1) && ((a.2.2.2.2.2.1 == b.2.2.2.2.2.1) && (decide (a.2.2.2.2.2.2.1 = b.2.2.2.2.2.2.1) && all2 alike a.1 b.1))
def fits (p : RP) (n m : Int) : Bool :=
  decide (0 ≤ p.1 ∧ p.1 ≤ p.2.1 ∧ p.2.1 ≤ n ∧ p.2.2.1 = p.1 ∧ p.2.2.1 ≤ p.2.2.2.1 ∧ p.2.2.2.1 ≤ m ∧ n - p.2.1 = m - p.2.2.2.1)
def longFrom : Int → List Row → Bool
  | _, [] => false
  | n, r :: l => if IntKind.i64.wrap (IntKind.i64.wrap (n + (r.1.length : Int)) + 1) > 400 then true else longFrom (IntKind.i64.wrap (IntKind.i64.wrap (n + (r.1.length : Int)) + 1)) l
def long (l : List Row) : Bool := longFrom 0 l
def sound (a b : List Row) (p : RP) : Bool := fits p a.length b.length && (all2 same (a.take p.1.toNat) (b.take p.2.2.1.toNat) && all2 same (a.drop p.2.1.toNat) (b.drop p.2.2.2.1.toNat))
def firsts : List Row → List Row → Nat
  | a :: r, b :: s => if same a b then firsts r s + 1 else 0
  | _, _ => 0
def least (a b : List Row) : RP :=
  let n := firsts a b
  let m := min (firsts a.reverse b.reverse) (min a.length b.length - n)
  ((n : Int), (a.length : Int) - (m : Int), (n : Int), (b.length : Int) - (m : Int), ())
def rows (l : List Row) : Prop := l.length ≤ maxLen ∧ ∀ r ∈ l, r.1.length ≤ maxLen
def oneRow (r : Int) : Row := ([(r, 1, 1, 0, ())], 0, 0, 0, false, false, 1, ())
def cAlike : Contract := { arg := .pair t41 (.pair t41 .unit), res := .bool, one := true, pre := fun _ => True, fn := fun x => alike x.1 x.2.1 }
def cSame : Contract := { arg := .pair t24 (.pair t24 .unit), res := .bool, one := true, pre := fun x => x.1.1.length ≤ maxLen ∧ x.2.1.1.length ≤ maxLen, fn := fun x => same x.1 x.2.1 }
def cFits : Contract := { arg := .pair t28 (.pair t3 (.pair t3 .unit)), res := .bool, one := true, pre := fun x => x.2.1 ≤ (9223372036854775807 : Int) ∧ x.2.2.1 ≤ (9223372036854775807 : Int), fn := fun x => fits x.1 x.2.1 x.2.2.1 }
def cLong : Contract := { arg := .pair t30 .unit, res := .bool, one := true, pre := fun x => x.1.length ≤ maxLen, fn := fun x => long x.1 }
def cSound : Contract := { arg := .pair t30 (.pair t30 (.pair t28 .unit)), res := .bool, one := true, pre := fun x => rows x.1 ∧ rows x.2.1, fn := fun x => sound x.1 x.2.1 x.2.2.1 }
def cEqRows : Contract := { arg := .pair t30 (.pair t30 .unit), res := .bool, one := true, pre := fun x => rows x.1 ∧ rows x.2.1, fn := fun x => all2 same x.1 x.2.1, tail := [10] }
def cLeast : Contract := { arg := .pair t30 (.pair t30 .unit), res := t28, one := true, pre := fun x => rows x.1 ∧ rows x.2.1, fn := fun x => least x.1 x.2.1 }
def cRow : Contract := { arg := .pair t21 .unit, res := t24, one := true, pre := fun _ => True, fn := fun x => oneRow x.1 }
def cMiddle : Contract := { arg := .unit, res := .bool, one := true, pre := fun _ => True, fn := fun _ => true }
def cDiffSame : Contract := lawC (.pair t24 (.pair t24 .unit)) (fun x => x.1.1.length ≤ maxLen ∧ x.2.1.1.length ≤ maxLen)
def cDiffFits : Contract := lawC (.pair t28 (.pair t3 (.pair t3 .unit))) (fun x => x.2.1 ≤ (9223372036854775807 : Int) ∧ x.2.2.1 ≤ (9223372036854775807 : Int))
def cDiffSound : Contract := lawC (.pair t30 (.pair t30 (.pair t28 .unit))) (fun x => rows x.1 ∧ rows x.2.1)
def cDiffLeast : Contract := lawC (.pair t30 (.pair t30 .unit)) (fun x => rows x.1 ∧ rows x.2.1)
end Go.Fr.C25
