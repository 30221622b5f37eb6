/-
  Chapter 40: types, what the functions compute, their contracts. Conditions: none.
-/
import Derived.Test.YtpkdccmpadkmjaaFrY
import Derived.Test.YtpkdccmpadkmjaaProg
namespace Go.Fr.C40
open Go Go.Fr Go.Proofs
abbrev t3 : Ty := .int .i64
abbrev t4 : Ty := .bool
abbrev t5 : Ty := .int .u8
abbrev t9 : Ty := .str
abbrev t60 : Ty := .pair t3 (.pair t3 (.pair t3 (.pair t3 .unit)))
abbrev t22 : Ty := .sl t60
abbrev t25 : Ty := .int .i64
abbrev t64 : Ty := .pair t3 (.pair t3 (.pair t3 (.pair t3 .unit)))
abbrev t28 : Ty := .sl t64
abbrev t30 : Ty := .pair t3 (.pair t28 (.pair t3 .unit))
abbrev t36 : Ty := .sl t3
abbrev t21 : Ty := .int .i32
abbrev t68 : Ty := .pair t21 (.pair t3 (.pair t3 (.pair t3 .unit)))
abbrev t40 : Ty := .sl t68
abbrev t42 : Ty := .pair t40 (.pair t3 (.pair t3 (.pair t3 (.pair t4 (.pair t4 (.pair t3 .unit))))))
abbrev t48 : Ty := .pair t3 (.pair t3 .unit)
abbrev t43 : Ty := .sl t48
abbrev t49 : Ty := .pair t3 (.pair t3 .unit)
abbrev t45 : Ty := .sl t49
abbrev t74 : Ty := .pair t3 (.pair t3 .unit)
abbrev t76 : Ty := .pair t74 (.pair t74 .unit)
abbrev t51 : Ty := .sl t76
abbrev t83 : Ty := .pair t74 (.pair t74 .unit)
abbrev t54 : Ty := .sl t83
abbrev t63 : Ty := .pair t3 (.pair t22 .unit)
abbrev t87 : Ty := .int .u64
abbrev t92 : Ty := .int .i64
abbrev t101 : Ty := .int .u32
abbrev t103 : Ty := .int .u64
abbrev t104 : Ty := .int .u64
abbrev t24 : Ty := .opt t63
def tab : List (TypeId × TI) := [
  (3, ⟨.int .i64, 1, 8, [.tv (.int .i64) (0 : Int)], some t3⟩),
  (4, ⟨.bool, 1, 1, [.blit false], some t4⟩),
  (5, ⟨.int .u8, 1, 1, [.tv (.int .u8) (0 : Int)], some t5⟩),
  (9, ⟨.str, 1, 16, [.tv .str ByteArray.empty], some t9⟩),
  (60, ⟨.struct [(0, 1, false), (1, 1, false), (2, 1, false), (3, 1, false)], 4, 32, [.tv (.int .i64) (0 : Int), .tv (.int .i64) (0 : Int), .tv (.int .i64) (0 : Int), .tv (.int .i64) (0 : Int)], some t60⟩),
  (22, ⟨.slice 60, 1, 24, [.raw (.slice none 0 0)], some t22⟩),
  (25, ⟨.int .i64, 1, 8, [.tv (.int .i64) (0 : Int)], some t25⟩),
  (64, ⟨.struct [(0, 1, false), (1, 1, false), (2, 1, false), (3, 1, false)], 4, 32, [.tv (.int .i64) (0 : Int), .tv (.int .i64) (0 : Int), .tv (.int .i64) (0 : Int), .tv (.int .i64) (0 : Int)], some t64⟩),
  (28, ⟨.slice 64, 1, 24, [.raw (.slice none 0 0)], some t28⟩),
  (30, ⟨.struct [(0, 1, false), (1, 1, false), (2, 1, false)], 3, 40, [.tv (.int .i64) (0 : Int), .raw (.slice none 0 0), .tv (.int .i64) (0 : Int)], some t30⟩),
  (36, ⟨.slice 3, 1, 24, [.raw (.slice none 0 0)], some t36⟩),
  (21, ⟨.int .i32, 1, 4, [.tv (.int .i32) (0 : Int)], some t21⟩),
  (68, ⟨.struct [(0, 1, false), (1, 1, false), (2, 1, false), (3, 1, false)], 4, 32, [.tv (.int .i32) (0 : Int), .tv (.int .i64) (0 : Int), .tv (.int .i64) (0 : Int), .tv (.int .i64) (0 : Int)], some t68⟩),
  (40, ⟨.slice 68, 1, 24, [.raw (.slice none 0 0)], some t40⟩),
  (42, ⟨.struct [(0, 1, false), (1, 1, false), (2, 1, false), (3, 1, false), (4, 1, false), (5, 1, false), (6, 1, false)], 7, 64, [.raw (.slice none 0 0), .tv (.int .i64) (0 : Int), .tv (.int .i64) (0 : Int), .tv (.int .i64) (0 : Int), .blit false, .blit false, .tv (.int .i64) (0 : Int)], some t42⟩),
  (48, ⟨.struct [(0, 1, false), (1, 1, false)], 2, 16, [.tv (.int .i64) (0 : Int), .tv (.int .i64) (0 : Int)], some t48⟩),
  (43, ⟨.slice 48, 1, 24, [.raw (.slice none 0 0)], some t43⟩),
  (49, ⟨.struct [(0, 1, false), (1, 1, false)], 2, 16, [.tv (.int .i64) (0 : Int), .tv (.int .i64) (0 : Int)], some t49⟩),
  (45, ⟨.slice 49, 1, 24, [.raw (.slice none 0 0)], some t45⟩),
  (74, ⟨.struct [(0, 1, false), (1, 1, false)], 2, 16, [.tv (.int .i64) (0 : Int), .tv (.int .i64) (0 : Int)], some t74⟩),
  (76, ⟨.struct [(0, 2, true), (2, 2, true)], 4, 32, [.tv (.int .i64) (0 : Int), .tv (.int .i64) (0 : Int), .tv (.int .i64) (0 : Int), .tv (.int .i64) (0 : Int)], some t76⟩),
  (51, ⟨.slice 76, 1, 24, [.raw (.slice none 0 0)], some t51⟩),
  (83, ⟨.struct [(0, 2, true), (2, 2, true)], 4, 32, [.tv (.int .i64) (0 : Int), .tv (.int .i64) (0 : Int), .tv (.int .i64) (0 : Int), .tv (.int .i64) (0 : Int)], some t83⟩),
  (54, ⟨.slice 83, 1, 24, [.raw (.slice none 0 0)], some t54⟩),
  (63, ⟨.struct [(0, 1, false), (1, 1, false)], 2, 32, [.tv (.int .i64) (0 : Int), .raw (.slice none 0 0)], some t63⟩),
  (87, ⟨.int .u64, 1, 8, [.tv (.int .u64) (0 : Int)], some t87⟩),
  (92, ⟨.int .i64, 1, 8, [.tv (.int .i64) (0 : Int)], some t92⟩),
  (101, ⟨.int .u32, 1, 4, [.tv (.int .u32) (0 : Int)], some t101⟩),
  (103, ⟨.int .u64, 1, 8, [.tv (.int .u64) (0 : Int)], some t103⟩),
  (104, ⟨.int .u64, 1, 8, [.tv (.int .u64) (0 : Int)], some t104⟩),
  (24, ⟨.ptr 63, 1, 8, [.raw (.pointer none)], some t24⟩)]
theorem tab_ok : tabOk Try.prog tab = true := by kernel_rfl
theorem mixed : Try.prog.follows .mixedOrders = true := by kernel_rfl
abbrev Span := Int × Int × Unit
abbrev Chg := Span × Span × Unit
abbrev Mark := Int × Int × Int × Int × Unit
abbrev MSet := Int × List Mark × Unit
abbrev WSet := Int × List Mark × Int × Unit
abbrev Cell := Int × Int × Int × Int × Unit
abbrev Run := Int × Int × Unit
def w64 (n : Int) : Int := IntKind.i64.wrap n
def maxI : Int := 1099511627776
def within (s : Span) : Bool := decide (0 ≤ s.1) && decide (s.1 ≤ s.2.1) && decide (s.2.1 ≤ 1099511627776)
def zeroC : Chg := ((0, 0, ()), (0, 0, ()), ())
def okStep (last c : Chg) (first : Bool) : Bool :=
  within c.1 && within c.2.1 && !(decide (c.1.1 = c.1.2.1) && decide (c.2.1.1 = c.2.1.2.1)) &&
    decide (c.1.1 - last.1.2.1 = c.2.1.1 - last.2.1.2.1) && decide (last.1.2.1 ≤ c.1.1) && (first || decide (c.1.1 ≠ last.1.2.1))
def normFrom (last : Chg) (first : Bool) : List Chg → Bool
  | [] => true
  | c :: r => okStep last c first && normFrom c false r
def normal (l : List Chg) : Bool := normFrom zeroC true l
def size (s : Span) : Int := w64 (s.2.1 - s.1)
def delta (l : List Chg) : Int := l.foldl (fun n c => w64 (n + w64 (size c.2.1 - size c.1))) 0
def mapTo (at_ bias : Int) : List Chg → Int → Int
  | [], shift => at_ + shift
  | c :: r, shift => if at_ < c.1.1 then at_ + shift else if at_ ≤ c.1.2.1 then (if bias = 0 then c.2.1.1 else c.2.1.2.1) else mapTo at_ bias r (c.2.1.2.1 - c.1.2.1)
def mapP (l : List Chg) (at_ bias : Int) : Int × Int × Unit :=
  if normal l = false then (0, 4, ()) else if at_ < 0 ∨ at_ > 1099511627776 ∨ (bias ≠ 0 ∧ bias ≠ 1) then (0, 1, ()) else (mapTo at_ bias l 0, 0, ())
def refMap (at_ bias : Int) : List Chg → Int → Int
  | [], shift => at_ + shift
  | c :: r, shift => if c.1.1 ≤ at_ ∧ at_ ≤ c.1.2.1 then (if bias = 0 then c.2.1.1 else c.2.1.2.1) else refMap at_ bias r (if at_ > c.1.2.1 then c.2.1.2.1 - c.1.2.1 else shift)
/-- A mark that is right for a text of n runes. -/
def okMark (n : Int) (m : Mark) : Bool := decide (0 ≤ m.1 ∧ m.1 < m.2.1 ∧ m.2.1 ≤ n ∧ 1 ≤ m.2.2.1)
def newM (n : Int) (l : List Mark) : Option MSet × Int × Unit :=
  if n < 0 ∨ n > 1099511627776 then (none, 1, ()) else if (l.length : Int) > 200 then (none, 5, ()) else if l.all (okMark n) then (some (n, l, ()), 0, ()) else (none, 1, ())
def newW (n : Int) (l : List Mark) : WSet :=
  if n < 0 ∨ n > 1099511627776 then (0, [], 1, ()) else if (l.length : Int) > 200 then (0, [], 5, ()) else if l.all (okMark n) then (n, l, 0, ()) else (0, [], 1, ())
def allM (s : Option MSet) : List Mark := match s with | none => [] | some s => s.2.1
def sizeM (s : Option MSet) : Int := match s with | none => 0 | some s => s.1
def isM (s : Option MSet) (e : Int) (w : WSet) : Bool := decide (e = w.2.2.1) && (decide (s.isNone = true ↔ ¬ w.2.2.1 = 0) && (s.isNone || decide (allM s = w.2.1)))
/-- The style at a place, and its layer. -/
def atStep (at_ : Int) (s : Int × Int) (m : Mark) : Int × Int := if at_ ≥ m.1 ∧ at_ < m.2.1 ∧ (s.1 = 0 ∨ m.2.2.2.1 ≥ s.2) then (m.2.2.1, m.2.2.2.1) else s
def atL (l : List Mark) (at_ : Int) : Int := (l.foldl (atStep at_) (0, 0)).1
/-- A set that is right. -/
def okSet (s : Option MSet) : Prop := (allM s).length ≤ 200 ∧ ∀ m ∈ allM s, okMark (sizeM s) m = true
def points (l : List Mark) : List Int := l.flatMap fun m => [m.1, m.2.1]
def ups (f : Int → Int) : Int → List Int → List Int
  | _, [] => []
  | last, p :: r => if f p = last then ups f last r else p :: ups f (f p) r
def dropRuns : Int → List Int → List Int
  | _, [] => []
  | p, b :: r => if b = p then dropRuns b r else b :: dropRuns b r
def compactL : List Int → List Int
  | [] => []
  | a :: r => a :: dropRuns a r
def sortL (l : List Int) : List Int := l.mergeSort fun x y => decide (x ≤ y)
def edgesL (l : List Mark) : List Int := ups (atL l) 0 (compactL (sortL (points l)))
def refEdges (n : Int) (l : List Mark) : List Int := ups (atL l) 0 ((List.range (n + 1).toNat).map fun (i : Nat) => ((i : Nat) : Int))
def styles (f : Int → Int) : Int → List Cell → List Int
  | _, [] => []
  | last, c :: r => let s := if c.2.1 = 1 then f c.2.2.2.1 else if c.2.1 = 4 then last else 0
    s :: styles f s r
def addRun (out : List Run) (x : Int) : List Run := match out.getLast? with
  | some r => if r.1 = x then out.dropLast ++ [(x, r.2.1 + 1, ())] else out ++ [(x, 1, ())]
  | none => [(x, 1, ())]
def runsL (l : List Int) : List Run := l.foldl addRun []
def shiftL (p : List Chg) (l : List Mark) : List Mark := (l.map fun m => (mapTo m.1 1 p 0, mapTo m.2.1 0 p 0, m.2.2.1, m.2.2.2.1, ())).filter fun m => decide (m.1 < m.2.1)
def endOf (l : List Chg) : Int := match l.getLast? with | some c => c.1.2.1 | none => 0
def shiftM (s : Option MSet) (p : List Chg) : Option MSet × Int × Unit :=
  if normal p = false then (none, 4, ()) else if endOf p > sizeM s ∨ w64 (sizeM s + delta p) > 1099511627776 then (none, 1, ()) else newM (w64 (sizeM s + delta p)) (shiftL p (allM s))
def cSize : Contract := { arg := .pair t74 .unit, res := .int .i64, one := true, pre := fun _ => True, fn := fun x => size x.1 }
def cDelta : Contract := { arg := .pair t51 .unit, res := .int .i64, one := true, pre := fun x => x.1.length ≤ maxLen, fn := fun x => delta x.1 }
def cWithin : Contract := { arg := .pair t74 .unit, res := .bool, one := true, pre := fun _ => True, fn := fun x => within x.1 }
def cNormal : Contract := { arg := .pair t51 .unit, res := .bool, one := true, pre := fun x => x.1.length ≤ maxLen, fn := fun x => normal x.1 }
def cRefNormal : Contract := { arg := .pair t54 .unit, res := .bool, one := true, pre := fun x => x.1.length ≤ maxLen, fn := fun x => normal x.1 }
def cChanges : Contract := { arg := .pair t51 .unit, res := t54, one := true, pre := fun x => x.1.length ≤ 1000000000, fn := fun x => x.1 }
def cMap : Contract := { arg := .pair t51 (.pair t3 (.pair t3 .unit)), res := .pair t3 (.pair t25 .unit), one := false, pre := fun x => x.1.length ≤ maxLen, fn := fun x => mapP x.1 x.2.1 x.2.2.1 }
def cRefMap : Contract := { arg := .pair t54 (.pair t3 (.pair t3 .unit)), res := t3, one := true, pre := fun x => x.1.length ≤ maxLen ∧ normal x.1 = true ∧ (0 : Int) ≤ x.2.1 ∧ x.2.1 ≤ (1099511627776 : Int), fn := fun x => refMap x.2.1 x.2.2.1 x.1 0 }
def cClone : Contract := { arg := .pair t22 .unit, res := t22, one := true, pre := fun x => x.1.length ≤ 10000, fn := fun x => x.1 }
def cAll : Contract := { arg := .pair t24 .unit, res := t22, one := true, pre := fun x => (allM x.1).length ≤ 10000, fn := fun x => allM x.1 }
def cNew : Contract := { arg := .pair t3 (.pair t22 .unit), res := .pair t24 (.pair t25 .unit), one := false, pre := fun x => x.2.1.length ≤ maxLen, fn := fun x => newM x.1 x.2.1 }
def cRefNew : Contract := { arg := .pair t3 (.pair t28 .unit), res := t30, one := true, pre := fun x => x.2.1.length ≤ maxLen, fn := fun x => newW x.1 x.2.1 }
def cRefs : Contract := { arg := .pair t22 .unit, res := t28, one := true, pre := fun x => x.1.length ≤ 1000000000, fn := fun x => x.1 }
def cIs : Contract := { arg := .pair t24 (.pair t25 (.pair t30 .unit)), res := .bool, one := true, pre := fun x => (allM x.1).length ≤ 10000 ∧ x.2.2.1.2.1.length ≤ 10000, fn := fun x => isM x.1 x.2.1 x.2.2.1 }
def cAt : Contract := { arg := .pair t24 (.pair t3 .unit), res := t3, one := true, pre := fun x => okSet x.1, fn := fun x => atL (allM x.1) x.2.1 }
def cRefAt : Contract := { arg := .pair t30 (.pair t3 .unit), res := t3, one := true, pre := fun x => x.1.2.1.length ≤ 10000, fn := fun x => atL x.1.2.1 x.2.1 }
def cEdges : Contract := { arg := .pair t24 .unit, res := t36, one := true, pre := fun x => okSet x.1, fn := fun x => edgesL (allM x.1) }
def cRefEdges : Contract := { arg := .pair t30 .unit, res := t36, one := true, pre := fun x => x.1.2.1.length ≤ 10000 ∧ (0 : Int) ≤ x.1.1 ∧ x.1.1 ≤ (300 : Int), fn := fun x => refEdges x.1.1 x.1.2.1 }
def cInts : Contract := { arg := .pair t36 (.pair t36 .unit), res := .bool, one := true, pre := fun x => x.1.length ≤ maxLen ∧ x.2.1.length ≤ maxLen, fn := fun x => decide ((x.1 : List Int) = x.2.1) }
def cPaint : Contract := { arg := .pair t24 (.pair t42 .unit), res := t43, one := true, pre := fun x => okSet x.1 ∧ x.2.1.1.length ≤ 10000, fn := fun x => runsL (styles (atL (allM x.1)) 0 x.2.1.1) }
def cRefStyles : Contract := { arg := .pair t30 (.pair t42 .unit), res := t36, one := true, pre := fun x => x.1.2.1.length ≤ 10000 ∧ x.2.1.1.length ≤ 10000, fn := fun x => styles (atL x.1.2.1) 0 x.2.1.1 }
def cRefPaint : Contract := { arg := .pair t30 (.pair t42 .unit), res := t45, one := true, pre := fun x => x.1.2.1.length ≤ 10000 ∧ x.2.1.1.length ≤ 10000, fn := fun x => runsL (styles (atL x.1.2.1) 0 x.2.1.1) }
def cShift : Contract := { arg := .pair t24 (.pair t51 .unit), res := .pair t24 (.pair t25 .unit), one := false, pre := fun x => okSet x.1 ∧ sizeM x.1 ≤ (1099511627776 : Int) ∧ (0 : Int) ≤ sizeM x.1 ∧ x.2.1.length ≤ 1000, fn := fun x => shiftM x.1 x.2.1 }
def shiftW (w : WSet) (p : List Chg) : WSet :=
  if normal p = false then (0, [], 4, ()) else if endOf p > w.1 ∨ w64 (w.1 + delta p) > 1099511627776 then (0, [], 1, ()) else newW (w64 (w.1 + delta p)) (shiftL p w.2.1)
def cRefShift : Contract := { arg := .pair t30 (.pair t54 .unit), res := t30, one := true, pre := fun x => x.1.2.1.length ≤ 200 ∧ (∀ m ∈ x.1.2.1, okMark x.1.1 m = true) ∧ (0 : Int) ≤ x.1.1 ∧ x.1.1 ≤ (1099511627776 : Int) ∧ x.2.1.length ≤ 1000, fn := fun x => shiftW x.1 x.2.1 }
def cThree : Contract := { arg := .unit, res := .bool, one := true, pre := fun _ => True, fn := fun _ => true }
def cMarksNew : Contract := lawC (.pair t3 (.pair t22 (.pair t3 .unit))) (fun x => x.2.1.length ≤ maxLen)
def cMarksEdges : Contract := lawC (.pair t3 (.pair t22 .unit)) (fun x => x.2.1.length ≤ maxLen)
def cMarksPaint : Contract := lawC (.pair t3 (.pair t22 (.pair t42 .unit))) (fun x => x.2.1.length ≤ maxLen ∧ x.2.2.1.1.length ≤ maxLen)
def cMarksShift : Contract := lawC (.pair t3 (.pair t22 (.pair t51 .unit))) (fun x => x.2.1.length ≤ maxLen ∧ x.2.2.1.length ≤ maxLen)
def cMarksNil : Contract := lawC (.pair t3 (.pair t42 .unit)) (fun x => x.2.1.1.length ≤ maxLen)
def rSort : RContract := { t := t3, e := 3, pre := fun xs => List.length xs ≤ 1000, post := fun xs ys => ys = sortL xs, back := false }
def rCompact : RContract := { t := t3, e := 3, pre := fun xs => List.length xs ≤ 1000, post := fun xs ys => ys = compactL xs, back := true }
def cAllO : Contract := { arg := .pair t24 .unit, res := t22, one := true, pre := fun x => (allM x.1).length ≤ 10000, fn := fun x => allM x.1, own := some 60 }
def rDel : RContract := { t := t60, e := 60, pre := fun xs => List.length xs ≤ 10000, post := fun xs ys => ys = List.filter (fun (m : Mark) => decide (m.1 < m.2.1)) xs, back := true, tail := [34] }
end Go.Fr.C40
