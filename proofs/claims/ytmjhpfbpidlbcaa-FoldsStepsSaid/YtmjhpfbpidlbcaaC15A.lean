/-
  Chapter 15: types, what the functions compute, their contracts. Conditions: none.
-/
import Derived.Test.YtmjhpfbpidlbcaaFrX
import Derived.Test.YtmjhpfbpidlbcaaFrY
import Derived.Test.YtmjhpfbpidlbcaaProg
namespace Go.Fr.C15
open Go Go.Fr Go.Proofs
abbrev t3 : Ty := .int .i64
abbrev t4 : Ty := .bool
abbrev t5 : Ty := .int .u8
abbrev t9 : Ty := .str
abbrev t33 : Ty := .pair t3 (.pair t3 .unit)
abbrev t22 : Ty := .sl t33
abbrev t25 : Ty := .int .i64
abbrev t29 : Ty := .pair t3 (.pair t22 (.pair t3 .unit))
abbrev t40 : Ty := .pair t3 (.pair t3 .unit)
abbrev t43 : Ty := .pair t33 (.pair t33 .unit)
abbrev t44 : Ty := .sl t43
abbrev t48 : Ty := .pair t3 (.pair t33 (.pair t44 .unit))
abbrev t46 : Ty := .sl t48
abbrev t75 : Ty := .pair t33 (.pair t33 .unit)
abbrev t54 : Ty := .sl t75
abbrev t62 : Ty := .unit
abbrev t66 : Ty := .pair t3 (.pair t22 (.pair t22 .unit))
abbrev t79 : Ty := .int .u64
abbrev t86 : Ty := .int .i64
abbrev t94 : Ty := .int .u32
abbrev t96 : Ty := .int .u64
abbrev t97 : Ty := .sl t3
abbrev t99 : Ty := .int .u64
abbrev t24 : Ty := .opt t66
def tab : List (TypeId × TI) := [
  (3, ⟨.int .i64, 1, 8, [.tv (.int .i64) (0 : Int)], some t3⟩),
  (4, ⟨.bool, 1, 1, [.blit false], some t4⟩),
  (5, ⟨.int .u8, 1, 1, [.tv (.int .u8) (0 : Int)], some t5⟩),
  (9, ⟨.str, 1, 16, [.tv .str ByteArray.empty], some t9⟩),
  (33, ⟨.struct [(0, 1, false), (1, 1, false)], 2, 16, [.tv (.int .i64) (0 : Int), .tv (.int .i64) (0 : Int)], some t33⟩),
  (22, ⟨.slice 33, 1, 24, [.raw (.slice none 0 0)], some t22⟩),
  (25, ⟨.int .i64, 1, 8, [.tv (.int .i64) (0 : Int)], some t25⟩),
  (29, ⟨.struct [(0, 1, false), (1, 1, false), (2, 1, false)], 3, 40, [.tv (.int .i64) (0 : Int), .raw (.slice none 0 0), .tv (.int .i64) (0 : Int)], some t29⟩),
  (40, ⟨.array 2 3 1, 2, 16, [.tv (.int .i64) (0 : Int), .tv (.int .i64) (0 : Int)], some t40⟩),
  (43, ⟨.struct [(0, 2, true), (2, 2, true)], 4, 32, [.tv (.int .i64) (0 : Int), .tv (.int .i64) (0 : Int), .tv (.int .i64) (0 : Int), .tv (.int .i64) (0 : Int)], some t43⟩),
  (44, ⟨.slice 43, 1, 24, [.raw (.slice none 0 0)], some t44⟩),
  (48, ⟨.struct [(0, 1, false), (1, 2, true), (3, 1, false)], 4, 48, [.tv (.int .i64) (0 : Int), .tv (.int .i64) (0 : Int), .tv (.int .i64) (0 : Int), .raw (.slice none 0 0)], some t48⟩),
  (46, ⟨.slice 48, 1, 24, [.raw (.slice none 0 0)], some t46⟩),
  (75, ⟨.struct [(0, 2, true), (2, 2, true)], 4, 32, [.tv (.int .i64) (0 : Int), .tv (.int .i64) (0 : Int), .tv (.int .i64) (0 : Int), .tv (.int .i64) (0 : Int)], some t75⟩),
  (54, ⟨.slice 75, 1, 24, [.raw (.slice none 0 0)], some t54⟩),
  (62, ⟨.struct [], 0, 0, [], some t62⟩),
  (60, ⟨.map 33 62, 1, 8, [.raw (.map none)], none⟩),
  (66, ⟨.struct [(0, 1, false), (1, 1, false), (2, 1, false)], 3, 56, [.tv (.int .i64) (0 : Int), .raw (.slice none 0 0), .raw (.slice none 0 0)], some t66⟩),
  (79, ⟨.int .u64, 1, 8, [.tv (.int .u64) (0 : Int)], some t79⟩),
  (86, ⟨.int .i64, 1, 8, [.tv (.int .i64) (0 : Int)], some t86⟩),
  (94, ⟨.int .u32, 1, 4, [.tv (.int .u32) (0 : Int)], some t94⟩),
  (96, ⟨.int .u64, 1, 8, [.tv (.int .u64) (0 : Int)], some t96⟩),
  (97, ⟨.slice 3, 1, 24, [.raw (.slice none 0 0)], some t97⟩),
  (99, ⟨.int .u64, 1, 8, [.tv (.int .u64) (0 : Int)], some t99⟩),
  (24, ⟨.ptr 66, 1, 8, [.raw (.pointer none)], some t24⟩)]
theorem tab_ok : tabOk Try.prog tab = true := by kernel_rfl
theorem mixed : Try.prog.follows .mixedOrders = true := by kernel_rfl
abbrev Span := Int × Int × Unit
abbrev Chg := Span × Span × Unit
abbrev FSet := Int × List Span × List Span × Unit
abbrev WSet := Int × List Span × Int × Unit
def w64 (n : Int) : Int := IntKind.i64.wrap n
def maxI : Int := 1099511627776
def within (s : Span) : Bool := decide (0 ≤ s.1) && decide (s.1 ≤ s.2.1) && decide (s.2.1 ≤ 1099511627776)
def zeroC : Chg := ((0, 0, ()), (0, 0, ()), ())
def okStep (last c : Chg) (first : Bool) : Bool :=
  within c.1 && within c.2.1 && !(decide (c.1.1 = c.1.2.1) && decide (c.2.1.1 = c.2.1.2.1)) &&
    decide (c.1.1 - last.1.2.1 = c.2.1.1 - last.2.1.2.1) && decide (last.1.2.1 ≤ c.1.1) && (first || decide (c.1.1 ≠ last.1.2.1))
def normFrom (last : Chg) (first : Bool) : List Chg → Bool
  | [] => true
  | c :: r => okStep last c first && normFrom c false r
def normal (l : List Chg) : Bool := normFrom zeroC true l
def size (s : Span) : Int := w64 (s.2.1 - s.1)
def delta (l : List Chg) : Int := l.foldl (fun n c => w64 (n + w64 (size c.2.1 - size c.1))) 0
def mapTo (at_ bias : Int) : List Chg → Int → Int
  | [], shift => at_ + shift
  | c :: r, shift => if at_ < c.1.1 then at_ + shift else if at_ ≤ c.1.2.1 then (if bias = 0 then c.2.1.1 else c.2.1.2.1) else mapTo at_ bias r (c.2.1.2.1 - c.1.2.1)
def mapP (l : List Chg) (at_ bias : Int) : Int × Int × Unit :=
  if normal l = false then (0, 4, ()) else if at_ < 0 ∨ at_ > 1099511627776 ∨ (bias ≠ 0 ∧ bias ≠ 1) then (0, 1, ()) else (mapTo at_ bias l 0, 0, ())
def refMap (at_ bias : Int) : List Chg → Int → Int
  | [], shift => at_ + shift
  | c :: r, shift => if c.1.1 ≤ at_ ∧ at_ ≤ c.1.2.1 then (if bias = 0 then c.2.1.1 else c.2.1.2.1) else refMap at_ bias r (if at_ > c.1.2.1 then c.2.1.2.1 - c.1.2.1 else shift)
/-- A fold that is right for a text of n runes. -/
def okS (n : Int) (x : Span) : Bool := decide (0 ≤ x.1 ∧ x.1 < x.2.1 ∧ x.2.1 ≤ n)
def fitsF (x : Span) (n : Int) : Bool := decide (0 ≤ x.1 ∧ x.1 ≤ x.2.1 ∧ x.2.1 ≤ n)
def cmpI (a b : Int) : Int := if a < b then -1 else if b < a then 1 else 0
def firstNZ : List Int → Int
  | [] => 0
  | x :: r => if x = 0 then firstNZ r else x
def cmpS (a b : Span) : Int := firstNZ [cmpI a.1 b.1, cmpI a.2.1 b.2.1]
def sortS (l : List Span) : List Span := sortBy cmpS l
def errF (n : Int) : List Span → List Span → Int
  | _, [] => 0
  | seen, x :: r => if okS n x = false then 1 else if x ∈ seen then 8 else errF n (seen ++ [x]) r
def hideStep (out : List Span) (x : Span) : List Span := match out.getLast? with
  | some h => if x.1 < h.2.1 then out.dropLast ++ [(h.1, if h.2.1 < x.2.1 then x.2.1 else h.2.1, ())] else out ++ [x]
  | none => out ++ [x]
def hideL (l : List Span) : List Span := l.foldl hideStep []
def newF (n : Int) (l : List Span) : Option FSet × Int × Unit :=
  if n < 0 ∨ n > 1099511627776 then (none, 1, ()) else if (l.length : Int) > 60 then (none, 5, ()) else if errF n [] l = 0 then (some (n, sortS l, hideL (sortS l), ()), 0, ()) else (none, errF n [] l, ())
def newW (n : Int) (l : List Span) : WSet :=
  if n < 0 ∨ n > 1099511627776 then (0, [], 1, ()) else if (l.length : Int) > 60 then (0, [], 5, ()) else if errF n [] l = 0 then (n, sortS l, 0, ()) else (0, [], errF n [] l, ())
def allF (s : Option FSet) : List Span := match s with | none => [] | some s => s.2.1
def hidF (s : Option FSet) : List Span := match s with | none => [] | some s => s.2.2.1
def lenF (s : Option FSet) : Int := match s with | none => 0 | some s => s.1
def inF (at_ : Int) (x : Span) : Bool := decide (x.1 < at_) && decide (at_ < x.2.1)
def overF (s : Option FSet) (at_ : Int) : Span × Bool × Unit := match (hidF s).find? (inF at_) with | some x => (x, true, ()) | none => ((0, 0, ()), false, ())
def overW (l : List Span) (at_ : Int) : Span := match l.find? (inF at_) with | some x => x | none => (-1, 0, ())
def offF (x y : Span) : Bool := !(decide (y.1 ≤ x.2.1) && decide (x.1 ≤ y.2.1))
def removeF (s : Option FSet) (x : Span) : Option FSet × Int × Int × Unit :=
  if fitsF x (lenF s) = false then (none, 0, 1, ()) else ((newF (lenF s) ((allF s).filter (offF x))).1, ((allF s).length : Int) - (((allF s).filter (offF x)).length : Int), (newF (lenF s) ((allF s).filter (offF x))).2.1, ())
def removeW (w : WSet) (x : Span) : WSet := if fitsF x w.1 = false then (0, [], 1, ()) else newW w.1 (w.2.1.filter (offF x))
def moveS (p : List Chg) (x : Span) : Span := (mapTo x.1 1 p 0, mapTo x.2.1 0 p 0, ())
def shiftSt (p : List Chg) (out : List Span) (x : Span) : List Span := if moveS p x ∈ out ∨ (moveS p x).1 ≥ (moveS p x).2.1 then out else out ++ [moveS p x]
def shiftL (p : List Chg) (l : List Span) : List Span := l.foldl (shiftSt p) []
def endOf (l : List Chg) : Int := match l.getLast? with | some c => c.1.2.1 | none => 0
def shiftF (s : Option FSet) (p : List Chg) : Option FSet × Int × Unit :=
  if normal p = false then (none, 4, ()) else if endOf p > lenF s ∨ w64 (lenF s + delta p) > 1099511627776 then (none, 1, ()) else newF (w64 (lenF s + delta p)) (shiftL p (allF s))
def shiftW (w : WSet) (p : List Chg) : WSet :=
  if normal p = false then (0, [], 4, ()) else if endOf p > w.1 ∨ w64 (w.1 + delta p) > 1099511627776 then (0, [], 1, ()) else newW (w64 (w.1 + delta p)) (shiftL p w.2.1)
def isF (s : Option FSet) (e : Int) (w : WSet) : Bool := decide (e = w.2.2.1) && (decide (s.isNone = true ↔ ¬ w.2.2.1 = 0) && (s.isNone || (decide (allF s = w.2.1) && (decide (lenF s = w.1) && decide (hidF s = hideL w.2.1)))))
/-- Folds in order. -/
def RightL (l : List Span) : Prop := l.length ≤ 1000 ∧ l.Pairwise (fun a b => a.1 ≤ b.1) ∧ ∀ x ∈ l, x.1 < x.2.1
/-- A set that is right. -/
def okF (s : Option FSet) : Prop := (allF s).length ≤ 60 ∧ (hidF s).length ≤ 60 ∧ ∀ x ∈ allF s, okS (lenF s) x = true
def cSize : Contract := { arg := .pair t33 .unit, res := .int .i64, one := true, pre := fun _ => True, fn := fun x => size x.1 }
def cDelta : Contract := { arg := .pair t44 .unit, res := .int .i64, one := true, pre := fun x => x.1.length ≤ maxLen, fn := fun x => delta x.1 }
def cWithin : Contract := { arg := .pair t33 .unit, res := .bool, one := true, pre := fun _ => True, fn := fun x => within x.1 }
def cNormal : Contract := { arg := .pair t44 .unit, res := .bool, one := true, pre := fun x => x.1.length ≤ maxLen, fn := fun x => normal x.1 }
def cRefNormal : Contract := { arg := .pair t54 .unit, res := .bool, one := true, pre := fun x => x.1.length ≤ maxLen, fn := fun x => normal x.1 }
def cChanges : Contract := { arg := .pair t44 .unit, res := t54, one := true, pre := fun x => x.1.length ≤ 1000000000, fn := fun x => x.1 }
def cMap : Contract := { arg := .pair t44 (.pair t3 (.pair t3 .unit)), res := .pair t3 (.pair t25 .unit), one := false, pre := fun x => x.1.length ≤ maxLen, fn := fun x => mapP x.1 x.2.1 x.2.2.1 }
def cRefMap : Contract := { arg := .pair t54 (.pair t3 (.pair t3 .unit)), res := t3, one := true, pre := fun x => x.1.length ≤ maxLen ∧ normal x.1 = true ∧ (0 : Int) ≤ x.2.1 ∧ x.2.1 ≤ (1099511627776 : Int), fn := fun x => refMap x.2.1 x.2.2.1 x.1 0 }
def cCmp : Contract := { arg := .pair t3 (.pair t3 .unit), res := .int .i64, one := true, pre := fun _ => True, fn := fun x => cmpI x.1 x.2.1 }
def cOr : Contract := { arg := .pair t97 .unit, res := .int .i64, one := true, pre := fun x => x.1.length ≤ maxLen, fn := fun x => firstNZ x.1 }
def cOrder : Contract := cOrd t33 cmpS
def cFits : Contract := { arg := .pair t33 (.pair t3 .unit), res := .bool, one := true, pre := fun _ => True, fn := fun x => fitsF x.1 x.2.1 }
def cOverlap : Contract := { arg := .pair t33 (.pair t33 .unit), res := .bool, one := true, pre := fun _ => True, fn := fun x => decide (x.1.1 < x.2.1.2.1) && decide (x.2.1.1 < x.1.2.1) }
def cClone : Contract := { arg := .pair t22 .unit, res := t22, one := true, pre := fun x => x.1.length ≤ 10000, fn := fun x => x.1 }
def cAll : Contract := { arg := .pair t24 .unit, res := t22, one := true, pre := fun x => (allF x.1).length ≤ 10000, fn := fun x => allF x.1 }
def cHidden : Contract := { arg := .pair t24 .unit, res := t22, one := true, pre := fun x => (hidF x.1).length ≤ 10000, fn := fun x => hidF x.1 }
def cLen : Contract := { arg := .pair t24 .unit, res := t3, one := true, pre := fun _ => True, fn := fun x => lenF x.1 }
def cSpans : Contract := { arg := .pair t22 (.pair t22 .unit), res := .bool, one := true, pre := fun x => x.1.length ≤ maxLen ∧ x.2.1.length ≤ maxLen, fn := fun x => decide ((x.1 : List Span) = x.2.1) }
def cNew : Contract := { arg := .pair t3 (.pair t22 .unit), res := .pair t24 (.pair t25 .unit), one := false, pre := fun x => x.2.1.length ≤ maxLen, fn := fun x => newF x.1 x.2.1 }
def cRefNew : Contract := { arg := .pair t3 (.pair t22 .unit), res := t29, one := true, pre := fun x => x.2.1.length ≤ maxLen, fn := fun x => newW x.1 x.2.1 }
def cRefHidden : Contract := { arg := .pair t29 .unit, res := t22, one := true, pre := fun x => RightL x.1.2.1, fn := fun x => hideL x.1.2.1 }
def cOver : Contract := { arg := .pair t24 (.pair t3 .unit), res := .pair t33 (.pair t4 .unit), one := false, pre := fun x => (hidF x.1).length ≤ 10000, fn := fun x => overF x.1 x.2.1 }
def cRefOver : Contract := { arg := .pair t29 (.pair t3 .unit), res := t33, one := true, pre := fun x => RightL x.1.2.1, fn := fun x => overW (hideL x.1.2.1) x.2.1 }
def cAdd : Contract := { arg := .pair t24 (.pair t33 .unit), res := .pair t24 (.pair t25 .unit), one := false, pre := fun x => (allF x.1).length ≤ 10000, fn := fun x => newF (lenF x.1) (allF x.1 ++ [x.2.1]) }
def cRefAdd : Contract := { arg := .pair t29 (.pair t33 .unit), res := t29, one := true, pre := fun x => x.1.2.1.length ≤ 10000, fn := fun x => newW x.1.1 (x.1.2.1 ++ [x.2.1]) }
def cRemove : Contract := { arg := .pair t24 (.pair t33 .unit), res := .pair t24 (.pair t3 (.pair t25 .unit)), one := false, pre := fun x => (allF x.1).length ≤ 10000, fn := fun x => removeF x.1 x.2.1 }
def cRefRemove : Contract := { arg := .pair t29 (.pair t33 .unit), res := t29, one := true, pre := fun x => x.1.2.1.length ≤ 10000, fn := fun x => removeW x.1 x.2.1 }
def cShift : Contract := { arg := .pair t24 (.pair t44 .unit), res := .pair t24 (.pair t25 .unit), one := false, pre := fun x => okF x.1 ∧ lenF x.1 ≤ (1099511627776 : Int) ∧ (0 : Int) ≤ lenF x.1 ∧ x.2.1.length ≤ 1000, fn := fun x => shiftF x.1 x.2.1 }
def cRefShift : Contract := { arg := .pair t29 (.pair t54 .unit), res := t29, one := true, pre := fun x => x.1.2.1.length ≤ 60 ∧ (∀ m ∈ x.1.2.1, okS x.1.1 m = true) ∧ (0 : Int) ≤ x.1.1 ∧ x.1.1 ≤ (1099511627776 : Int) ∧ x.2.1.length ≤ 1000, fn := fun x => shiftW x.1 x.2.1 }
def cIs : Contract := { arg := .pair t24 (.pair t25 (.pair t29 .unit)), res := .bool, one := true, pre := fun x => (allF x.1).length ≤ 10000 ∧ (hidF x.1).length ≤ 10000 ∧ RightL x.2.2.1.2.1, fn := fun x => isF x.1 x.2.1 x.2.2.1 }
def cThree : Contract := { arg := .unit, res := .bool, one := true, pre := fun _ => True, fn := fun _ => true }
def cFoldsHide : Contract := lawC (.pair t3 (.pair t22 .unit)) (fun x => x.2.1.length ≤ maxLen)
def cFoldsNew : Contract := lawC (.pair t3 (.pair t22 (.pair t3 .unit))) (fun x => x.2.1.length ≤ maxLen)
def cFoldsGrow : Contract := lawC (.pair t3 (.pair t33 (.pair t40 .unit))) (fun _ => True)
def cFoldsSteps : Contract := lawC (.pair t3 (.pair t22 (.pair t46 .unit))) (fun x => x.2.1.length ≤ maxLen ∧ x.2.2.1.length ≤ maxLen ∧ ∀ o ∈ x.2.2.1, o.2.2.1.length ≤ maxLen)
def cFoldsNil : Contract := lawC (.pair t33 .unit) (fun _ => True)
def rSort : RContract := { t := t33, e := 33, pre := fun xs => List.length xs ≤ 100000, post := fun xs ys => ys = sortBy cmpS xs, back := false, tail := [28] }
def cCloneO : Contract := { arg := .pair t22 .unit, res := t22, one := true, pre := fun x => x.1.length ≤ 10000, fn := fun x => x.1, own := some 33 }
def cAllO : Contract := { arg := .pair t24 .unit, res := t22, one := true, pre := fun x => (allF x.1).length ≤ 10000, fn := fun x => allF x.1, own := some 33 }
end Go.Fr.C15
