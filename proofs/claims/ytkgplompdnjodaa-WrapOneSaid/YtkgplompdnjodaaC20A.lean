/-
  Chapter 20: types, what the functions compute, their contracts. Conditions: none.
-/
import Derived.Test.YtkgplompdnjodaaFrZ
import Derived.Test.YtkgplompdnjodaaProg
namespace Go.Fr.C20
open Go Go.Fr Go.Proofs
abbrev t3 : Ty := .int .i64
abbrev t4 : Ty := .bool
abbrev t21 : Ty := .int .i32
abbrev t38 : Ty := .pair t21 (.pair t3 (.pair t3 (.pair t3 .unit)))
abbrev t22 : Ty := .sl t38
abbrev t25 : Ty := .sl t22
abbrev t26 : Ty := .int .i64
abbrev t39 : Ty := .sl t3
abbrev t43 : Ty := .pair t3 (.pair t3 .unit)
def tab : List (TypeId × TI) := [
  (3, ⟨.int .i64, 1, 8, [.tv (.int .i64) (0 : Int)], some t3⟩),
  (4, ⟨.bool, 1, 1, [.blit false], some t4⟩),
  (21, ⟨.int .i32, 1, 4, [.tv (.int .i32) (0 : Int)], some t21⟩),
  (38, ⟨.struct [(0, 1, false), (1, 1, false), (2, 1, false), (3, 1, false)], 4, 32, [.tv (.int .i32) (0 : Int), .tv (.int .i64) (0 : Int), .tv (.int .i64) (0 : Int), .tv (.int .i64) (0 : Int)], some t38⟩),
  (22, ⟨.slice 38, 1, 24, [.raw (.slice none 0 0)], some t22⟩),
  (25, ⟨.slice 22, 1, 24, [.raw (.slice none 0 0)], some t25⟩),
  (26, ⟨.int .i64, 1, 8, [.tv (.int .i64) (0 : Int)], some t26⟩),
  (39, ⟨.slice 3, 1, 24, [.raw (.slice none 0 0)], some t39⟩),
  (43, ⟨.array 2 3 1, 2, 16, [.tv (.int .i64) (0 : Int), .tv (.int .i64) (0 : Int)], some t43⟩)]
theorem tab_ok : tabOk Try.prog tab = true := by kernel_rfl
theorem mixed : Try.prog.follows .mixedOrders = true := by kernel_rfl
def noGl : Nat → Option ((t : Ty) × t.den) := fun _ => none
abbrev Cell := Int × Int × Int × Int × Unit
def zCell : Cell := (0, 0, 0, 0, ())
def wd (c : Cell) : Int := c.2.2.1
def blank (c : Cell) : Bool := c.1 == 32 || c.1 == 9
def width (l : List Cell) : Int := l.foldl (fun n c => n + wd c) 0
/-- Cells such as are gone through. -/
def okL (l : List Cell) : Prop := l.length ≤ 200 ∧ ∀ c ∈ l, 0 ≤ wd c ∧ wd c ≤ 2
def bound (l : List Cell) (at_ : Int) : Bool := decide (at_ > 0) && decide (at_ < (l.length : Int)) && blank (l.getD (at_ - 1).toNat zCell) && !blank (l.getD at_.toNat zCell) && decide (wd (l.getD at_.toNat zCell) > 0)
/-- How many cells fit behind what is taken. -/
def fitGo (room : Int) : List Cell → Int → Nat
  | [], _ => 0
  | c :: r, w => if w + wd c ≤ room then fitGo room r (w + wd c) + 1 else 0
def zeros : List Cell → Nat
  | [] => 0
  | c :: r => if wd c = 0 then zeros r + 1 else 0
def fit (l : List Cell) (room : Int) : Nat := if fitGo room l 0 = 0 then zeros (l.drop 1) + 1 else fitGo room l 0
def lastB (l : List Cell) : Nat → Nat
  | 0 => 0
  | n + 1 => if bound l ((n + 1 : Nat) : Int) then n + 1 else lastB l n
def takes (l : List Cell) (room : Int) : Nat :=
  if l = [] then 0 else if fit l room = l.length then fit l room else if lastB l (fit l room) = 0 then fit l room else lastB l (fit l room)
def start (l : List Cell) (room : Int) : Nat :=
  if (l.take (takes l room)).all blank then (if takes l room = 0 then 0 else fit l room) else takes l room
def rowsGo (rest : Int) : Nat → List Cell → Nat → List Int
  | 0, _, _ => []
  | f + 1, l, n => (n : Int) :: if l.drop n = [] then [] else rowsGo rest f (l.drop n) (takes (l.drop n) rest)
def allR (l : List Cell) (first rest : Int) : List Int := rowsGo rest (l.length + 1) l (start l first)
/-- The width of the blank cells at the beginning. -/
def lead : List Cell → Int
  | [] => 0
  | c :: r => if blank c then wd c + lead r else 0
def indent (l : List Cell) : Int := if lead l > 8 then 8 else lead l
def right (l : List Cell) : Bool := decide (l.length ≤ 200) && l.all fun c => decide (0 ≤ wd c) && decide (wd c ≤ 2)
/-- Rows' cells. -/
def okW (l : List Cell) : Prop := l.length ≤ 1000 ∧ ∀ c ∈ l, 0 ≤ wd c ∧ wd c ≤ 2
def wRight (w : Int) : Bool := decide (0 ≤ w ∧ w ≤ 200)
def hang (l : List Cell) (w : Int) : Int := if 0 ≤ w ∧ w ≤ 200 ∧ indent l + 2 ≤ w then indent l else 0
def wtakes (l : List Cell) (w : Int) : List Int := if w = 0 then [(l.length : Int)] else allR l w (w - hang l w)
/-- A cell of the hanging indent. -/
def inCell (at_ : Int) : Cell := (32, 5, 1, at_, ())
def behind (n : Int) (l : List Cell) : List Cell := List.replicate n.toNat (inCell (l.getD 0 zCell).2.2.2.1) ++ l
def cutRows (h : Int) : Nat → List Int → List Cell → List (List Cell)
  | _, [], _ => []
  | i, n :: ns, l => behind (if i = 0 then 0 else h) (l.take n.toNat) :: cutRows h (i + 1) ns (l.drop n.toNat)
def rowsW (l : List Cell) (w : Int) : List (List Cell) := cutRows (hang l w) 0 (wtakes l w) l
def widest (r : List (List Cell)) : Int := r.foldl (fun m x => if m < width x then width x else m) 0
/-- Rows, and what is wrong with the width. -/
def rowsE (l : List Cell) (w : Int) : List (List Cell) × Int × Unit := if wRight w = true then (rowsW l w, (0 : Int), ()) else ([], (1 : Int), ())
def countE (l : List Cell) (w : Int) : Int × Int × Int × Unit := if wRight w = true then (((rowsW l w).length : Int), widest (rowsW l w), (0 : Int), ()) else ((0 : Int), (0 : Int), (1 : Int), ())
def cBlank : Contract := { arg := .pair t38 .unit, res := .bool, one := true, pre := fun _ => True, fn := fun x => blank x.1 }
def cWidth : Contract := { arg := .pair t22 .unit, res := t3, one := true, pre := fun x => okW x.1, fn := fun x => width x.1 }
def cBoundary : Contract := { arg := .pair t22 (.pair t3 .unit), res := .bool, one := true, pre := fun x => okL x.1, fn := fun x => bound x.1 x.2.1 }
def cFit : Contract := { arg := .pair t22 (.pair t3 .unit), res := t3, one := true, pre := fun x => okL x.1, fn := fun x => (fit x.1 x.2.1 : Int) }
def cTakes : Contract := { arg := .pair t22 (.pair t3 .unit), res := t3, one := true, pre := fun x => okL x.1, fn := fun x => (takes x.1 x.2.1 : Int) }
def cStart : Contract := { arg := .pair t22 (.pair t3 .unit), res := t3, one := true, pre := fun x => okL x.1, fn := fun x => (start x.1 x.2.1 : Int) }
def cIndent : Contract := { arg := .pair t22 .unit, res := t3, one := true, pre := fun x => okL x.1, fn := fun x => indent x.1 }
def cAll : Contract := { arg := .pair t22 (.pair t3 (.pair t3 .unit)), res := t39, one := true, pre := fun x => okL x.1, fn := fun x => allR x.1 x.2.1 x.2.2.1 }
def cRAll : Contract := { arg := .pair t22 (.pair t43 .unit), res := t39, one := true, pre := fun x => okL x.1, fn := fun x => allR x.1 x.2.1.1 x.2.1.2.1 }
def cRight : Contract := { arg := .pair t22 .unit, res := .bool, one := true, pre := fun x => x.1.length ≤ maxLen, fn := fun x => right x.1 }
def cWRight : Contract := { arg := .pair t3 .unit, res := .bool, one := true, pre := fun _ => True, fn := fun x => wRight x.1 }
def cHang : Contract := { arg := .pair t22 (.pair t3 .unit), res := t3, one := true, pre := fun x => okL x.1, fn := fun x => hang x.1 x.2.1 }
def cWTakes : Contract := { arg := .pair t22 (.pair t3 .unit), res := t39, one := true, pre := fun x => okL x.1 ∧ (0 : Int) ≤ x.2.1 ∧ x.2.1 ≤ (200 : Int), fn := fun x => wtakes x.1 x.2.1 }
def cBehind : Contract := { arg := .pair t3 (.pair t22 .unit), res := t22, one := true, pre := fun x => (0 : Int) ≤ x.1 ∧ x.1 ≤ (8 : Int) ∧ x.2.1.length ≤ 200 ∧ ((0 : Int) < x.1 → x.2.1 ≠ []), fn := fun x => behind x.1 x.2.1 }
def cRows : Contract := { arg := .pair t22 (.pair t3 .unit), res := .pair t25 (.pair t26 .unit), one := false, pre := fun x => okL x.1, fn := fun x => rowsE x.1 x.2.1 }
def cCount : Contract := { arg := .pair t22 (.pair t3 .unit), res := .pair t3 (.pair t3 (.pair t26 .unit)), one := false, pre := fun x => okL x.1, fn := fun x => countE x.1 x.2.1 }
def cRRows : Contract := { arg := .pair t22 (.pair t3 .unit), res := t25, one := true, pre := fun x => okL x.1 ∧ (0 : Int) ≤ x.2.1 ∧ x.2.1 ≤ (200 : Int), fn := fun x => rowsW x.1 x.2.1 }
def cCells : Contract := { arg := .pair t22 (.pair t22 .unit), res := .bool, one := true, pre := fun x => x.1.length ≤ maxLen ∧ x.2.1.length ≤ maxLen, fn := fun x => decide (x.1 = x.2.1) }
def cHangs : Contract := { arg := .unit, res := .bool, one := true, pre := fun _ => True, fn := fun _ => true }
def cWrapRows : Contract := lawC (.pair t22 (.pair t3 .unit)) (fun x => x.1.length ≤ maxLen)
def cWrapWide : Contract := lawC (.pair t22 (.pair t3 .unit)) (fun x => x.1.length ≤ maxLen)
def cWrapKeeps : Contract := lawC (.pair t22 (.pair t3 .unit)) (fun x => x.1.length ≤ maxLen)
def cWrapHangs : Contract := lawC (.pair t22 (.pair t3 .unit)) (fun x => x.1.length ≤ maxLen)
def cWrapOne : Contract := lawC (.pair t22 .unit) (fun x => x.1.length ≤ maxLen)
end Go.Fr.C20
