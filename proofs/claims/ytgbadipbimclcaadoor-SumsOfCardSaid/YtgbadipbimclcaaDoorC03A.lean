/-
  Chapter 03: types, what the functions compute, their contracts. Conditions: none.
-/
import Derived.Test.YtgbadipbimclcaaDoorFrZ
import Derived.Test.YtgbadipbimclcaaDoorProg
namespace Go.Fr.C03
open Go Go.Fr Go.Proofs
abbrev t3 : Ty := .int .i64
abbrev t4 : Ty := .bool
abbrev t5 : Ty := .int .u8
abbrev t9 : Ty := .str
abbrev t21 : Ty := .int .i32
abbrev t22 : Ty := .sl t21
abbrev t25 : Ty := .pair t3 (.pair t3 (.pair t3 (.pair t3 (.pair t3 (.pair t3 (.pair t3 .unit))))))
abbrev t27 : Ty := .pair t3 (.pair t3 (.pair t3 (.pair t3 (.pair t3 (.pair t3 (.pair t3 .unit))))))
abbrev t31 : Ty := .pair t3 (.pair t3 .unit)
abbrev t37 : Ty := .sl t3
abbrev t43 : Ty := .pair t21 (.pair t21 (.pair t21 (.pair t21 .unit)))
abbrev t45 : Ty := .sl t5
def tab : List (TypeId × TI) := [
  (3, ⟨.int .i64, 1, 8, [.tv (.int .i64) (0 : Int)], some t3⟩),
  (4, ⟨.bool, 1, 1, [.blit false], some t4⟩),
  (5, ⟨.int .u8, 1, 1, [.tv (.int .u8) (0 : Int)], some t5⟩),
  (9, ⟨.str, 1, 16, [.tv .str ByteArray.empty], some t9⟩),
  (21, ⟨.int .i32, 1, 4, [.tv (.int .i32) (0 : Int)], some t21⟩),
  (22, ⟨.slice 21, 1, 24, [.raw (.slice none 0 0)], some t22⟩),
  (25, ⟨.struct [(0, 1, false), (1, 1, false), (2, 1, false), (3, 1, false), (4, 1, false), (5, 1, false), (6, 1, false)], 7, 56, [.tv (.int .i64) (0 : Int), .tv (.int .i64) (0 : Int), .tv (.int .i64) (0 : Int), .tv (.int .i64) (0 : Int), .tv (.int .i64) (0 : Int), .tv (.int .i64) (0 : Int), .tv (.int .i64) (0 : Int)], some t25⟩),
  (27, ⟨.struct [(0, 1, false), (1, 1, false), (2, 1, false), (3, 1, false), (4, 1, false), (5, 1, false), (6, 1, false)], 7, 56, [.tv (.int .i64) (0 : Int), .tv (.int .i64) (0 : Int), .tv (.int .i64) (0 : Int), .tv (.int .i64) (0 : Int), .tv (.int .i64) (0 : Int), .tv (.int .i64) (0 : Int), .tv (.int .i64) (0 : Int)], some t27⟩),
  (31, ⟨.struct [(0, 1, false), (1, 1, false)], 2, 16, [.tv (.int .i64) (0 : Int), .tv (.int .i64) (0 : Int)], some t31⟩),
  (37, ⟨.slice 3, 1, 24, [.raw (.slice none 0 0)], some t37⟩),
  (43, ⟨.array 4 21 1, 4, 16, [.tv (.int .i32) (0 : Int), .tv (.int .i32) (0 : Int), .tv (.int .i32) (0 : Int), .tv (.int .i32) (0 : Int)], some t43⟩),
  (45, ⟨.slice 5, 1, 24, [.raw (.slice none 0 0)], some t45⟩)]
theorem tab_ok : tabOk Tryd.prog tab = true := by kernel_rfl
theorem mixed : Tryd.prog.follows .mixedOrders = true := by kernel_rfl
/-- What the program's one variable holds. -/
def gl : Nat → Option ((t : Ty) × t.den) := fun g => bif Nat.beq g 0 then some ⟨t43, ((127 : Int), (2047 : Int), (65535 : Int), (1114111 : Int), ())⟩ else none
/-- Bytes, runes, breaks, first, last, longest, row. -/
abbrev Sum := Int × Int × Int × Int × Int × Int × Int × Unit
def right (r : Int) : Bool := decide (0 ≤ r ∧ r ≤ 1114111 ∧ (r < 55296 ∨ r > 57343))
def sizeR (r : Int) : Int := if uSize r = 0 then 3 else uSize r
def endS (s : Sum) : Sum :=
  let (b, r, k, f, l, lo, ro, _) := s
  (b, r, k, if k = 0 then l else f, l, if l > lo then l else lo, if l > lo then k else ro, ())
def addR (s : Sum) (x : Int) : Sum :=
  let (b, r, k, f, l, lo, ro, _) := s
  if x ≠ 10 then (b + sizeR x, r + 1, k, f, l + 1, lo, ro, ())
  else let (b, r, k, f, _, lo, ro, _) := endS (b + sizeR x, r + 1, k, f, l, lo, ro, ())
    (b, r, k + 1, f, 0, lo, ro, ())
def zSum : Sum := (0, 0, 0, 0, 0, 0, 0, ())
def sumOf (l : List Int) : Sum := endS (l.foldl addR zSum)
def encB (x : Int) : ByteArray := if uSize x = 0 then bytesOf (uBytes 65533 3) else bytesOf (uBytes x (uSize x))
def encode (l : List Int) : ByteArray := l.foldl (fun s x => s ++ encB x) ByteArray.empty
def lineStep (n : List Int) (x : Int) : List Int := if x = 10 then n ++ [0] else n.set (n.length - 1) (n.getD (n.length - 1) 0 + 1)
def linesOf (l : List Int) : List Int := l.foldl lineStep [0]
/-- The longest line, and the first that is so long. -/
def longStep (s : Int × Int × Int) (x : Int) : Int × Int × Int := if x > s.1 then (x, s.2.2, s.2.2 + 1) else (s.1, s.2.1, s.2.2 + 1)
def refSum (l : List Int) : Sum :=
  let n := linesOf l
  let g := n.foldl longStep (0, 0, 0)
  (((encode l).size : Int), (l.length : Int), (n.length : Int) - 1, n.getD 0 0, n.getD (n.length - 1) 0, g.1, g.2.1, ())
def addS (a b : Sum) : Sum :=
  let (b1, r1, k1, f1, l1, lo1, ro1, _) := a
  let (b2, r2, k2, f2, l2, lo2, ro2, _) := b
  let f := if k1 = 0 then f1 + f2 else f1
  let l := if k2 = 0 then l2 + l1 else l2
  let j := l1 + f2
  let (lo, ro) := if j > lo1 then (j, k1) else (lo1, ro1)
  let (lo, ro) := if lo2 > lo then (lo2, k1 + ro2) else (lo, ro)
  (b1 + b2, r1 + r2, k1 + k2, f, l, lo, ro, ())
def okSum (s : Sum) : Prop := 0 ≤ s.1 ∧ s.1 ≤ 1000000000000 ∧ 0 ≤ s.2.1 ∧ s.2.1 ≤ 1000000000000 ∧ 0 ≤ s.2.2.1 ∧ s.2.2.1 ≤ 1000000000000 ∧ 0 ≤ s.2.2.2.1 ∧ s.2.2.2.1 ≤ 1000000000000 ∧ 0 ≤ s.2.2.2.2.1 ∧ s.2.2.2.2.1 ≤ 1000000000000 ∧
  0 ≤ s.2.2.2.2.2.1 ∧ s.2.2.2.2.2.1 ≤ 1000000000000 ∧ 0 ≤ s.2.2.2.2.2.2.1 ∧ s.2.2.2.2.2.2.1 ≤ 1000000000000
def cRight : Contract := { arg := .pair t21 .unit, res := .bool, one := true, pre := fun _ => True, fn := fun x => right x.1 }
def cSize : Contract := { arg := .pair t21 .unit, res := t3, one := true, pre := fun _ => True, fn := fun x => sizeR x.1 }
def cUSize : Contract := { arg := .pair t21 .unit, res := t3, one := true, pre := fun _ => True, fn := fun x => uSize x.1 }
def cOne : Contract := { arg := .pair t21 (.pair t3 .unit), res := t9, one := true, pre := fun x => (0 : Int) ≤ x.1 ∧ x.1 ≤ (1114111 : Int) ∧ uSize x.1 = x.2.1, fn := fun x => bytesOf (uBytes x.1 x.2.1) }
def cEncode : Contract := { arg := .pair t22 .unit, res := t9, one := true, pre := fun x => x.1.length ≤ 1000000000, fn := fun x => encode x.1 }
def cLines : Contract := { arg := .pair t22 .unit, res := t37, one := true, pre := fun x => x.1.length ≤ 1000000000, fn := fun x => linesOf x.1 }
def cRefOf : Contract := { arg := .pair t22 .unit, res := t27, one := true, pre := fun x => x.1.length ≤ 1000000000, fn := fun x => refSum x.1 }
def cOf : Contract := { arg := .pair t22 .unit, res := t25, one := true, pre := fun x => x.1.length ≤ 1000000000, fn := fun x => sumOf x.1 }
def cRef : Contract := { arg := .pair t25 .unit, res := t27, one := true, pre := fun _ => True, fn := fun x => x.1 }
def cEnd : Contract := { arg := .pair t25 .unit, res := t31, one := true, pre := fun _ => True, fn := fun x => (x.1.2.2.1, x.1.2.2.2.2.1, ()) }
def cAdd : Contract := { arg := .pair t25 (.pair t25 .unit), res := t25, one := true, pre := fun x => okSum x.1 ∧ okSum x.2.1, fn := fun x => addS x.1 x.2.1 }
def cTwo : Contract := { arg := .unit, res := .bool, one := true, pre := fun _ => True, fn := fun _ => true }
def cSumsOf : Contract := lawC (.pair t22 .unit) (fun x => x.1.length ≤ maxLen)
def cSumsAdds : Contract := lawC (.pair t22 (.pair t22 .unit)) (fun x => x.1.length ≤ maxLen ∧ x.2.1.length ≤ maxLen)
def cSumsBrackets : Contract := lawC (.pair t22 (.pair t22 (.pair t22 .unit))) (fun x => x.1.length ≤ maxLen ∧ x.2.1.length ≤ maxLen ∧ x.2.2.1.length ≤ maxLen)
def cSumsPieces : Contract := lawC (.pair t22 (.pair t37 .unit)) (fun x => x.1.length ≤ maxLen ∧ x.2.1.length ≤ maxLen)
end Go.Fr.C03
