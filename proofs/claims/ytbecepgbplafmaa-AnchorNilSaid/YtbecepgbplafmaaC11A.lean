/-
  Chapter 11: types, what the functions compute, their contracts. Conditions: none.
-/
import Derived.Test.YtbecepgbplafmaaFrX
import Derived.Test.YtbecepgbplafmaaFrY
import Derived.Test.YtbecepgbplafmaaProg
namespace Go.Fr.C11
open Go Go.Fr Go.Proofs
abbrev t3 : Ty := .int .i64
abbrev t4 : Ty := .bool
abbrev t5 : Ty := .int .u8
abbrev t9 : Ty := .str
abbrev t36 : Ty := .pair t3 (.pair t3 (.pair t3 .unit))
abbrev t22 : Ty := .sl t36
abbrev t24 : Ty := .pair t3 (.pair t3 (.pair t3 .unit))
abbrev t27 : Ty := .int .i64
abbrev t35 : Ty := .pair t3 (.pair t3 (.pair t3 .unit))
abbrev t31 : Ty := .sl t35
abbrev t49 : Ty := .pair t3 (.pair t3 .unit)
abbrev t51 : Ty := .pair t49 (.pair t49 .unit)
abbrev t43 : Ty := .sl t51
abbrev t70 : Ty := .pair t49 (.pair t49 .unit)
abbrev t46 : Ty := .sl t70
abbrev t58 : Ty := .mp t3 t36
abbrev t60 : Ty := .pair t3 (.pair t22 (.pair t58 .unit))
abbrev t77 : Ty := .int .u64
abbrev t83 : Ty := .int .i64
abbrev t91 : Ty := .int .u32
abbrev t93 : Ty := .int .u64
abbrev t94 : Ty := .sl t3
abbrev t96 : Ty := .int .u64
abbrev t26 : Ty := .opt t60
def tab : List (TypeId × TI) := [
  (3, ⟨.int .i64, 1, 8, [.tv (.int .i64) (0 : Int)], some t3⟩),
  (4, ⟨.bool, 1, 1, [.blit false], some t4⟩),
  (5, ⟨.int .u8, 1, 1, [.tv (.int .u8) (0 : Int)], some t5⟩),
  (9, ⟨.str, 1, 16, [.tv .str ByteArray.empty], some t9⟩),
  (36, ⟨.struct [(0, 1, false), (1, 1, false), (2, 1, false)], 3, 24, [.tv (.int .i64) (0 : Int), .tv (.int .i64) (0 : Int), .tv (.int .i64) (0 : Int)], some t36⟩),
  (22, ⟨.slice 36, 1, 24, [.raw (.slice none 0 0)], some t22⟩),
  (24, ⟨.struct [(0, 1, false), (1, 1, false), (2, 1, false)], 3, 24, [.tv (.int .i64) (0 : Int), .tv (.int .i64) (0 : Int), .tv (.int .i64) (0 : Int)], some t24⟩),
  (27, ⟨.int .i64, 1, 8, [.tv (.int .i64) (0 : Int)], some t27⟩),
  (35, ⟨.struct [(0, 1, false), (1, 1, false), (2, 1, false)], 3, 24, [.tv (.int .i64) (0 : Int), .tv (.int .i64) (0 : Int), .tv (.int .i64) (0 : Int)], some t35⟩),
  (31, ⟨.slice 35, 1, 24, [.raw (.slice none 0 0)], some t31⟩),
  (49, ⟨.struct [(0, 1, false), (1, 1, false)], 2, 16, [.tv (.int .i64) (0 : Int), .tv (.int .i64) (0 : Int)], some t49⟩),
  (51, ⟨.struct [(0, 2, true), (2, 2, true)], 4, 32, [.tv (.int .i64) (0 : Int), .tv (.int .i64) (0 : Int), .tv (.int .i64) (0 : Int), .tv (.int .i64) (0 : Int)], some t51⟩),
  (43, ⟨.slice 51, 1, 24, [.raw (.slice none 0 0)], some t43⟩),
  (70, ⟨.struct [(0, 2, true), (2, 2, true)], 4, 32, [.tv (.int .i64) (0 : Int), .tv (.int .i64) (0 : Int), .tv (.int .i64) (0 : Int), .tv (.int .i64) (0 : Int)], some t70⟩),
  (46, ⟨.slice 70, 1, 24, [.raw (.slice none 0 0)], some t46⟩),
  (58, ⟨.map 3 36, 1, 8, [.raw (.map none)], some t58⟩),
  (60, ⟨.struct [(0, 1, false), (1, 1, false), (2, 1, false)], 3, 40, [.tv (.int .i64) (0 : Int), .raw (.slice none 0 0), .raw (.map none)], some t60⟩),
  (77, ⟨.int .u64, 1, 8, [.tv (.int .u64) (0 : Int)], some t77⟩),
  (83, ⟨.int .i64, 1, 8, [.tv (.int .i64) (0 : Int)], some t83⟩),
  (91, ⟨.int .u32, 1, 4, [.tv (.int .u32) (0 : Int)], some t91⟩),
  (93, ⟨.int .u64, 1, 8, [.tv (.int .u64) (0 : Int)], some t93⟩),
  (94, ⟨.slice 3, 1, 24, [.raw (.slice none 0 0)], some t94⟩),
  (96, ⟨.int .u64, 1, 8, [.tv (.int .u64) (0 : Int)], some t96⟩),
  (26, ⟨.ptr 60, 1, 8, [.raw (.pointer none)], some t26⟩)]
theorem tab_ok : tabOk Try.prog tab = true := by kernel_rfl
theorem mixed : Try.prog.follows .mixedOrders = true := by kernel_rfl
abbrev Span := Int × Int × Unit
abbrev Chg := Span × Span × Unit
abbrev Anc := Int × Int × Int × Unit
abbrev AMap := List (Int × Anc × Unit)
abbrev ASet := Int × List Anc × AMap × Unit
def w64 (n : Int) : Int := IntKind.i64.wrap n
def within (s : Span) : Bool := decide (0 ≤ s.1) && decide (s.1 ≤ s.2.1) && decide (s.2.1 ≤ 1099511627776)
def zeroC : Chg := ((0, 0, ()), (0, 0, ()), ())
def okStep (last c : Chg) (first : Bool) : Bool :=
  within c.1 && within c.2.1 && !(decide (c.1.1 = c.1.2.1) && decide (c.2.1.1 = c.2.1.2.1)) &&
    decide (c.1.1 - last.1.2.1 = c.2.1.1 - last.2.1.2.1) && decide (last.1.2.1 ≤ c.1.1) && (first || decide (c.1.1 ≠ last.1.2.1))
def normFrom (last : Chg) (first : Bool) : List Chg → Bool
  | [] => true
  | c :: r => okStep last c first && normFrom c false r
def normal (l : List Chg) : Bool := normFrom zeroC true l
def size (s : Span) : Int := w64 (s.2.1 - s.1)
def delta (l : List Chg) : Int := l.foldl (fun n c => w64 (n + w64 (size c.2.1 - size c.1))) 0
def mapTo (at_ bias : Int) : List Chg → Int → Int
  | [], shift => at_ + shift
  | c :: r, shift => if at_ < c.1.1 then at_ + shift else if at_ ≤ c.1.2.1 then (if bias = 0 then c.2.1.1 else c.2.1.2.1) else mapTo at_ bias r (c.2.1.2.1 - c.1.2.1)
def mapP (l : List Chg) (at_ bias : Int) : Int × Int × Unit :=
  if normal l = false then (0, 4, ()) else if at_ < 0 ∨ at_ > 1099511627776 ∨ (bias ≠ 0 ∧ bias ≠ 1) then (0, 1, ()) else (mapTo at_ bias l 0, 0, ())
def refMap (at_ bias : Int) : List Chg → Int → Int
  | [], shift => at_ + shift
  | c :: r, shift => if c.1.1 ≤ at_ ∧ at_ ≤ c.1.2.1 then (if bias = 0 then c.2.1.1 else c.2.1.2.1) else refMap at_ bias r (if at_ > c.1.2.1 then c.2.1.2.1 - c.1.2.1 else shift)
def endOf (l : List Chg) : Int := match l.getLast? with | some c => c.1.2.1 | none => 0
def invert (l : List Chg) : List Chg := l.map fun c => (c.2.1, c.1, ())
def cmpI (a b : Int) : Int := if a < b then -1 else if b < a then 1 else 0
def firstNZ : List Int → Int
  | [] => 0
  | x :: r => if x = 0 then firstNZ r else x
/-- Anchors: a number, a place, a bias. -/
def okA (n : Int) (x : Anc) : Bool := decide (0 ≤ x.2.1 ∧ x.2.1 ≤ n ∧ (x.2.2.1 = 0 ∨ x.2.2.1 = 1))
def hasId (i : Int) (l : List Anc) : Bool := l.any fun x => decide (x.1 = i)
def errA (n : Int) : List Anc → List Anc → Int
  | _, [] => 0
  | seen, x :: r => if okA n x = false then 1 else if hasId x.1 seen = true then 8 else errA n (seen ++ [x]) r
def cmpA (a b : Anc) : Int := firstNZ [cmpI a.2.1 b.2.1, cmpI a.1 b.1]
def sortA (l : List Anc) : List Anc := sortBy cmpA l
def insA1 (x : Anc) : List Anc → List Anc
  | [] => [x]
  | y :: r => if cmpA x y < 0 then x :: y :: r else y :: insA1 x r
def insA (l : List Anc) : List Anc := l.foldl (fun o x => insA1 x o) []
def keysA (l : List Anc) : AMap := l.map fun x => (x.1, x, ())
def wrongA (n : Int) (l : List Anc) : Int := if n < 0 ∨ n > 1099511627776 then 1 else if (l.length : Int) > 200 then 5 else errA n [] l
def newA (n : Int) (l : List Anc) : Option ASet × Int × Unit := if wrongA n l = 0 then (some (n, sortA l, keysA l, ()), 0, ()) else (none, wrongA n l, ())
def allA (s : Option ASet) : List Anc := match s with | none => [] | some s => s.2.1
def lenA (s : Option ASet) : Int := match s with | none => 0 | some s => s.1
def byA (s : Option ASet) : AMap := match s with | none => [] | some s => s.2.2.1
def getL (i : Int) : AMap → Option Anc
  | [] => none
  | e :: r => if i = e.1 then some e.2.1 else getL i r
def getA (s : Option ASet) (i : Int) : Anc × Int × Unit := match getL i (byA s) with | some a => (a, 0, ()) | none => ((0, 0, 0, ()), 6, ())
def inA (f t : Int) (x : Anc) : Bool := !(decide (x.2.1 < f) || decide (x.2.1 > t))
def moveA (p : List Chg) (x : Anc) : Anc := (x.1, (mapP p x.2.1 x.2.2.1).1, x.2.2.1, ())
def moveR (p : List Chg) (x : Anc) : Anc := (x.1, refMap x.2.1 x.2.2.1 p 0, x.2.2.1, ())
def shiftA (s : Option ASet) (p : List Chg) : Option ASet × Int × Unit :=
  if normal p = false then (none, 4, ()) else if endOf p > lenA s ∨ w64 (lenA s + delta p) > 1099511627776 then (none, 1, ()) else newA (w64 (lenA s + delta p)) ((allA s).map (moveA p))
def cSize : Contract := { arg := .pair t49 .unit, res := .int .i64, one := true, pre := fun _ => True, fn := fun x => size x.1 }
def cDelta : Contract := { arg := .pair t43 .unit, res := .int .i64, one := true, pre := fun x => x.1.length ≤ maxLen, fn := fun x => delta x.1 }
def cWithin : Contract := { arg := .pair t49 .unit, res := .bool, one := true, pre := fun _ => True, fn := fun x => within x.1 }
def cNormal : Contract := { arg := .pair t43 .unit, res := .bool, one := true, pre := fun x => x.1.length ≤ maxLen, fn := fun x => normal x.1 }
def cRefNormal : Contract := { arg := .pair t46 .unit, res := .bool, one := true, pre := fun x => x.1.length ≤ maxLen, fn := fun x => normal x.1 }
def cChanges : Contract := { arg := .pair t43 .unit, res := t46, one := true, pre := fun x => x.1.length ≤ 1000000000, fn := fun x => x.1 }
def cMap : Contract := { arg := .pair t43 (.pair t3 (.pair t3 .unit)), res := .pair t3 (.pair t27 .unit), one := false, pre := fun x => x.1.length ≤ maxLen, fn := fun x => mapP x.1 x.2.1 x.2.2.1 }
def cRefMap : Contract := { arg := .pair t46 (.pair t3 (.pair t3 .unit)), res := t3, one := true, pre := fun x => x.1.length ≤ maxLen ∧ normal x.1 = true ∧ (0 : Int) ≤ x.2.1 ∧ x.2.1 ≤ (1099511627776 : Int), fn := fun x => refMap x.2.1 x.2.2.1 x.1 0 }
def cInvert : Contract := { arg := .pair t43 .unit, res := t43, one := true, pre := fun x => x.1.length ≤ 1000000000, fn := fun x => invert x.1 }
def cCmp : Contract := { arg := .pair t3 (.pair t3 .unit), res := .int .i64, one := true, pre := fun _ => True, fn := fun x => cmpI x.1 x.2.1 }
def cOr : Contract := { arg := .pair t94 .unit, res := .int .i64, one := true, pre := fun x => x.1.length ≤ maxLen, fn := fun x => firstNZ x.1 }
def cOrder : Contract := cOrd t36 cmpA
def cClone : Contract := { arg := .pair t22 .unit, res := t22, one := true, pre := fun x => x.1.length ≤ 10000, fn := fun x => x.1 }
def cAll : Contract := { arg := .pair t26 .unit, res := t22, one := true, pre := fun x => (allA x.1).length ≤ 10000, fn := fun x => allA x.1 }
def cNew : Contract := { arg := .pair t3 (.pair t22 .unit), res := .pair t26 (.pair t27 .unit), one := false, pre := fun x => x.2.1.length ≤ maxLen, fn := fun x => newA x.1 x.2.1 }
def cWrong : Contract := { arg := .pair t3 (.pair t31 .unit), res := t3, one := true, pre := fun x => x.2.1.length ≤ maxLen, fn := fun x => wrongA x.1 x.2.1 }
def cRefs : Contract := { arg := .pair t22 .unit, res := t31, one := true, pre := fun x => x.1.length ≤ 10000, fn := fun x => x.1 }
def cOrdered : Contract := { arg := .pair t31 .unit, res := t31, one := true, pre := fun x => x.1.length ≤ 10000, fn := fun x => insA x.1 }
def cGet : Contract := { arg := .pair t26 (.pair t3 .unit), res := .pair t36 (.pair t27 .unit), one := false, pre := fun _ => True, fn := fun x => getA x.1 x.2.1 }
def cSame : Contract := { arg := .pair t22 (.pair t31 .unit), res := .bool, one := true, pre := fun x => x.1.length ≤ 10000 ∧ x.2.1.length ≤ maxLen, fn := fun x => decide ((x.1 : List Anc) = x.2.1) }
def cBetween : Contract := { arg := .pair t26 (.pair t3 (.pair t3 .unit)), res := t22, one := true, pre := fun x => (allA x.1).length ≤ 10000, fn := fun x => (allA x.1).filter (inA x.2.1 x.2.2.1) }
def cShift : Contract := { arg := .pair t26 (.pair t43 .unit), res := .pair t26 (.pair t27 .unit), one := false, pre := fun x => (allA x.1).length ≤ 10000 ∧ (0 : Int) ≤ lenA x.1 ∧ lenA x.1 ≤ (1099511627776 : Int) ∧ x.2.1.length ≤ 1000, fn := fun x => shiftA x.1 x.2.1 }
def cShifted : Contract := { arg := .pair t31 (.pair t46 .unit), res := t31, one := true, pre := fun x => x.1.length ≤ 10000 ∧ x.2.1.length ≤ 1000 ∧ normal x.2.1 = true ∧ ∀ a ∈ x.1, (0 : Int) ≤ a.2.1 ∧ a.2.1 ≤ (1099511627776 : Int), fn := fun x => insA (x.1.map (moveR x.2.1)) }
def cBoth : Contract := { arg := .unit, res := .bool, one := true, pre := fun _ => True, fn := fun _ => true }
def cAnchorSets : Contract := lawC (.pair t3 (.pair t22 (.pair t24 .unit))) (fun x => x.2.1.length ≤ maxLen)
def cAnchorShifts : Contract := lawC (.pair t3 (.pair t22 (.pair t43 .unit))) (fun x => x.2.1.length ≤ maxLen ∧ x.2.2.1.length ≤ maxLen)
def cAnchorStays : Contract := lawC (.pair t3 (.pair t22 (.pair t43 .unit))) (fun x => x.2.1.length ≤ maxLen ∧ x.2.2.1.length ≤ maxLen)
def cAnchorNil : Contract := lawC (.pair t3 (.pair t43 .unit)) (fun x => x.2.1.length ≤ maxLen)
def cAnchorBack : Contract := lawC (.pair t3 (.pair t3 (.pair t43 .unit))) (fun x => x.2.2.1.length ≤ maxLen)
def rSort : RContract := { t := t36, e := 36, pre := fun xs => List.length xs ≤ 100000, post := fun xs ys => ys.Perm xs ∧ ys.Pairwise (fun a b => ¬ cmpA b a < 0), back := false, tail := [24] }
def cCloneO : Contract := { arg := .pair t22 .unit, res := t22, one := true, pre := fun x => x.1.length ≤ 10000, fn := fun x => x.1, own := some 36 }
def cAllO : Contract := { arg := .pair t26 .unit, res := t22, one := true, pre := fun x => (allA x.1).length ≤ 10000, fn := fun x => allA x.1, own := some 36 }
end Go.Fr.C11
