/-
  Chapter 19: types, what the functions compute, their contracts. Conditions: none.
-/
import Derived.Test.YthfkodcgkhcioaaFrZ
import Derived.Test.YthfkodcgkhcioaaProg
namespace Go.Fr.C19
open Go Go.Fr Go.Proofs
abbrev t3 : Ty := .int .i64
abbrev t4 : Ty := .bool
abbrev t21 : Ty := .int .i32
abbrev t35 : Ty := .pair t21 (.pair t3 (.pair t3 (.pair t3 .unit)))
abbrev t22 : Ty := .sl t35
abbrev t28 : Ty := .pair t3 (.pair t3 .unit)
abbrev t30 : Ty := .sl t3
def tab : List (TypeId × TI) := [
  (3, ⟨.int .i64, 1, 8, [.tv (.int .i64) (0 : Int)], some t3⟩),
  (4, ⟨.bool, 1, 1, [.blit false], some t4⟩),
  (21, ⟨.int .i32, 1, 4, [.tv (.int .i32) (0 : Int)], some t21⟩),
  (35, ⟨.struct [(0, 1, false), (1, 1, false), (2, 1, false), (3, 1, false)], 4, 32, [.tv (.int .i32) (0 : Int), .tv (.int .i64) (0 : Int), .tv (.int .i64) (0 : Int), .tv (.int .i64) (0 : Int)], some t35⟩),
  (22, ⟨.slice 35, 1, 24, [.raw (.slice none 0 0)], some t22⟩),
  (28, ⟨.array 2 3 1, 2, 16, [.tv (.int .i64) (0 : Int), .tv (.int .i64) (0 : Int)], some t28⟩),
  (30, ⟨.slice 3, 1, 24, [.raw (.slice none 0 0)], some t30⟩)]
theorem tab_ok : tabOk Try.prog tab = true := by kernel_rfl
theorem mixed : Try.prog.follows .mixedOrders = true := by kernel_rfl
def noGl : Nat → Option ((t : Ty) × t.den) := fun _ => none
abbrev Cell := Int × Int × Int × Int × Unit
def zCell : Cell := (0, 0, 0, 0, ())
def wd (c : Cell) : Int := c.2.2.1
def blank (c : Cell) : Bool := c.1 == 32 || c.1 == 9
def width (l : List Cell) : Int := l.foldl (fun n c => n + wd c) 0
/-- Cells such as are gone through. -/
def okL (l : List Cell) : Prop := l.length ≤ 200 ∧ ∀ c ∈ l, 0 ≤ wd c ∧ wd c ≤ 2
def bound (l : List Cell) (at_ : Int) : Bool := decide (at_ > 0) && decide (at_ < (l.length : Int)) && blank (l.getD (at_ - 1).toNat zCell) && !blank (l.getD at_.toNat zCell) && decide (wd (l.getD at_.toNat zCell) > 0)
/-- How many cells fit behind what is taken. -/
def fitGo (room : Int) : List Cell → Int → Nat
  | [], _ => 0
  | c :: r, w => if w + wd c ≤ room then fitGo room r (w + wd c) + 1 else 0
def zeros : List Cell → Nat
  | [] => 0
  | c :: r => if wd c = 0 then zeros r + 1 else 0
def fit (l : List Cell) (room : Int) : Nat := if fitGo room l 0 = 0 then zeros (l.drop 1) + 1 else fitGo room l 0
def lastB (l : List Cell) : Nat → Nat
  | 0 => 0
  | n + 1 => if bound l ((n + 1 : Nat) : Int) then n + 1 else lastB l n
def takes (l : List Cell) (room : Int) : Nat :=
  if l = [] then 0 else if fit l room = l.length then fit l room else if lastB l (fit l room) = 0 then fit l room else lastB l (fit l room)
def start (l : List Cell) (room : Int) : Nat :=
  if (l.take (takes l room)).all blank then (if takes l room = 0 then 0 else fit l room) else takes l room
def rowsGo (rest : Int) : Nat → List Cell → Nat → List Int
  | 0, _, _ => []
  | f + 1, l, n => (n : Int) :: if l.drop n = [] then [] else rowsGo rest f (l.drop n) (takes (l.drop n) rest)
def allR (l : List Cell) (first rest : Int) : List Int := rowsGo rest (l.length + 1) l (start l first)
/-- The width of the blank cells at the beginning. -/
def lead : List Cell → Int
  | [] => 0
  | c :: r => if blank c then wd c + lead r else 0
def indent (l : List Cell) : Int := if lead l > 8 then 8 else lead l
def right (l : List Cell) : Bool := decide (l.length ≤ 200) && l.all fun c => decide (0 ≤ wd c) && decide (wd c ≤ 2)
def cBlank : Contract := { arg := .pair t35 .unit, res := .bool, one := true, pre := fun _ => True, fn := fun x => blank x.1 }
def cWidth : Contract := { arg := .pair t22 .unit, res := t3, one := true, pre := fun x => okL x.1, fn := fun x => width x.1 }
def cBoundary : Contract := { arg := .pair t22 (.pair t3 .unit), res := .bool, one := true, pre := fun x => okL x.1, fn := fun x => bound x.1 x.2.1 }
def cFit : Contract := { arg := .pair t22 (.pair t3 .unit), res := t3, one := true, pre := fun x => okL x.1, fn := fun x => (fit x.1 x.2.1 : Int) }
def cTakes : Contract := { arg := .pair t22 (.pair t3 .unit), res := t3, one := true, pre := fun x => okL x.1, fn := fun x => (takes x.1 x.2.1 : Int) }
def cStart : Contract := { arg := .pair t22 (.pair t3 .unit), res := t3, one := true, pre := fun x => okL x.1, fn := fun x => (start x.1 x.2.1 : Int) }
def cIndent : Contract := { arg := .pair t22 .unit, res := t3, one := true, pre := fun x => okL x.1, fn := fun x => indent x.1 }
def cAll : Contract := { arg := .pair t22 (.pair t3 (.pair t3 .unit)), res := t30, one := true, pre := fun x => okL x.1, fn := fun x => allR x.1 x.2.1 x.2.2.1 }
def cRAll : Contract := { arg := .pair t22 (.pair t28 .unit), res := t30, one := true, pre := fun x => okL x.1, fn := fun x => allR x.1 x.2.1.1 x.2.1.2.1 }
def cInts : Contract := { arg := .pair t30 (.pair t30 .unit), res := .bool, one := true, pre := fun x => x.1.length ≤ maxLen ∧ x.2.1.length ≤ maxLen, fn := fun x => decide (x.1 = x.2.1) }
def cRight : Contract := { arg := .pair t22 .unit, res := .bool, one := true, pre := fun x => x.1.length ≤ maxLen, fn := fun x => right x.1 }
def cTwo : Contract := { arg := .unit, res := .bool, one := true, pre := fun _ => True, fn := fun _ => true }
def cBreaksTakes : Contract := lawC (.pair t22 (.pair t3 .unit)) (fun x => x.1.length ≤ maxLen)
def cBreaksAll : Contract := lawC (.pair t22 (.pair t28 .unit)) (fun x => x.1.length ≤ maxLen)
def cBreaksWhole : Contract := lawC (.pair t22 (.pair t28 .unit)) (fun x => x.1.length ≤ maxLen)
def cBreaksFit : Contract := lawC (.pair t22 (.pair t28 .unit)) (fun x => x.1.length ≤ maxLen)
def cBreaksWords : Contract := lawC (.pair t22 (.pair t3 .unit)) (fun x => x.1.length ≤ maxLen)
def cBreaksMore : Contract := lawC (.pair t22 (.pair t3 (.pair t3 .unit))) (fun x => x.1.length ≤ maxLen ∧ (-9223372036854775808 ≤ x.2.1 ∧ x.2.1 ≤ 9223372036854775807) ∧ (-9223372036854775808 ≤ x.2.2.1 ∧ x.2.2.1 ≤ 9223372036854775807))
def cBreaksNone : Contract := lawC (.pair t28 .unit) (fun _ => True)
end Go.Fr.C19
