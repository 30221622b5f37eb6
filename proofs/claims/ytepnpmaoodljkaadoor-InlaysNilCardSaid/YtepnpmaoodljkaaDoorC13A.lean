/-
  Chapter 13: types, what the functions compute, their contracts. Conditions: none.
-/
import Derived.Test.YtepnpmaoodljkaaDoorFrX
import Derived.Test.YtepnpmaoodljkaaDoorFrZ
import Derived.Test.YtepnpmaoodljkaaDoorProg
namespace Go.Fr.C13
open Go Go.Fr Go.Proofs
abbrev t3 : Ty := .int .i64
abbrev t4 : Ty := .bool
abbrev t5 : Ty := .int .u8
abbrev t9 : Ty := .str
abbrev t21 : Ty := .int .i32
abbrev t42 : Ty := .pair t3 (.pair t3 (.pair t3 (.pair t3 (.pair t9 .unit))))
abbrev t22 : Ty := .sl t42
abbrev t24 : Ty := .pair t3 (.pair t3 .unit)
abbrev t28 : Ty := .int .i64
abbrev t32 : Ty := .pair t3 (.pair t22 (.pair t3 .unit))
abbrev t40 : Ty := .sl t3
abbrev t79 : Ty := .pair t24 (.pair t24 .unit)
abbrev t45 : Ty := .sl t79
abbrev t84 : Ty := .pair t24 (.pair t24 .unit)
abbrev t48 : Ty := .sl t84
abbrev t53 : Ty := .pair t4 (.pair t45 (.pair t40 (.pair t22 .unit)))
abbrev t51 : Ty := .sl t53
abbrev t58 : Ty := .pair t3 (.pair t22 .unit)
abbrev t61 : Ty := .unit
abbrev t59 : Ty := .mp t3 t61
abbrev t68 : Ty := .sl t21
abbrev t73 : Ty := .mp t3 t42
abbrev t90 : Ty := .int .u64
abbrev t96 : Ty := .pair t21 (.pair t3 .unit)
abbrev t102 : Ty := .sl t5
abbrev t105 : Ty := .int .i64
abbrev t113 : Ty := .int .u32
abbrev t115 : Ty := .int .u64
abbrev t118 : Ty := .pair t21 (.pair t21 (.pair t21 (.pair t21 .unit)))
abbrev t119 : Ty := .int .u64
abbrev t27 : Ty := .opt t58
def tab : List (TypeId × TI) := [
  (3, ⟨.int .i64, 1, 8, [.tv (.int .i64) (0 : Int)], some t3⟩),
  (4, ⟨.bool, 1, 1, [.blit false], some t4⟩),
  (5, ⟨.int .u8, 1, 1, [.tv (.int .u8) (0 : Int)], some t5⟩),
  (9, ⟨.str, 1, 16, [.tv .str ByteArray.empty], some t9⟩),
  (21, ⟨.int .i32, 1, 4, [.tv (.int .i32) (0 : Int)], some t21⟩),
  (42, ⟨.struct [(0, 1, false), (1, 1, false), (2, 1, false), (3, 1, false), (4, 1, false)], 5, 48, [.tv (.int .i64) (0 : Int), .tv (.int .i64) (0 : Int), .tv (.int .i64) (0 : Int), .tv (.int .i64) (0 : Int), .tv .str ByteArray.empty], some t42⟩),
  (22, ⟨.slice 42, 1, 24, [.raw (.slice none 0 0)], some t22⟩),
  (24, ⟨.struct [(0, 1, false), (1, 1, false)], 2, 16, [.tv (.int .i64) (0 : Int), .tv (.int .i64) (0 : Int)], some t24⟩),
  (28, ⟨.int .i64, 1, 8, [.tv (.int .i64) (0 : Int)], some t28⟩),
  (32, ⟨.struct [(0, 1, false), (1, 1, false), (2, 1, false)], 3, 40, [.tv (.int .i64) (0 : Int), .raw (.slice none 0 0), .tv (.int .i64) (0 : Int)], some t32⟩),
  (40, ⟨.slice 3, 1, 24, [.raw (.slice none 0 0)], some t40⟩),
  (79, ⟨.struct [(0, 2, true), (2, 2, true)], 4, 32, [.tv (.int .i64) (0 : Int), .tv (.int .i64) (0 : Int), .tv (.int .i64) (0 : Int), .tv (.int .i64) (0 : Int)], some t79⟩),
  (45, ⟨.slice 79, 1, 24, [.raw (.slice none 0 0)], some t45⟩),
  (84, ⟨.struct [(0, 2, true), (2, 2, true)], 4, 32, [.tv (.int .i64) (0 : Int), .tv (.int .i64) (0 : Int), .tv (.int .i64) (0 : Int), .tv (.int .i64) (0 : Int)], some t84⟩),
  (48, ⟨.slice 84, 1, 24, [.raw (.slice none 0 0)], some t48⟩),
  (53, ⟨.struct [(0, 1, false), (1, 1, false), (2, 1, false), (3, 1, false)], 4, 80, [.blit false, .raw (.slice none 0 0), .raw (.slice none 0 0), .raw (.slice none 0 0)], some t53⟩),
  (51, ⟨.slice 53, 1, 24, [.raw (.slice none 0 0)], some t51⟩),
  (58, ⟨.struct [(0, 1, false), (1, 1, false)], 2, 32, [.tv (.int .i64) (0 : Int), .raw (.slice none 0 0)], some t58⟩),
  (61, ⟨.struct [], 0, 0, [], some t61⟩),
  (59, ⟨.map 3 61, 1, 8, [.raw (.map none)], some t59⟩),
  (68, ⟨.slice 21, 1, 24, [.raw (.slice none 0 0)], some t68⟩),
  (73, ⟨.map 3 42, 1, 8, [.raw (.map none)], some t73⟩),
  (90, ⟨.int .u64, 1, 8, [.tv (.int .u64) (0 : Int)], some t90⟩),
  (96, ⟨.struct [(0, 1, false), (1, 1, false)], 2, 16, [.tv (.int .i32) (0 : Int), .tv (.int .i64) (0 : Int)], some t96⟩),
  (102, ⟨.slice 5, 1, 24, [.raw (.slice none 0 0)], some t102⟩),
  (105, ⟨.int .i64, 1, 8, [.tv (.int .i64) (0 : Int)], some t105⟩),
  (113, ⟨.int .u32, 1, 4, [.tv (.int .u32) (0 : Int)], some t113⟩),
  (115, ⟨.int .u64, 1, 8, [.tv (.int .u64) (0 : Int)], some t115⟩),
  (118, ⟨.array 4 21 1, 4, 16, [.tv (.int .i32) (0 : Int), .tv (.int .i32) (0 : Int), .tv (.int .i32) (0 : Int), .tv (.int .i32) (0 : Int)], some t118⟩),
  (119, ⟨.int .u64, 1, 8, [.tv (.int .u64) (0 : Int)], some t119⟩),
  (27, ⟨.ptr 58, 1, 8, [.raw (.pointer none)], some t27⟩)]
theorem tab_ok : tabOk Tryd.prog tab = true := by kernel_rfl
theorem mixed : Tryd.prog.follows .mixedOrders = true := by kernel_rfl
/-- What the program's one variable holds. -/
def gl : Nat → Option ((t : Ty) × t.den) := fun g => bif Nat.beq g 0 then some ⟨t118, ((127 : Int), (2047 : Int), (65535 : Int), (1114111 : Int), ())⟩ else none
def right (r : Int) : Bool := decide (0 ≤ r ∧ r ≤ 1114111 ∧ (r < 55296 ∨ r > 57343))
def sizeR (r : Int) : Int := if uSize r = 0 then 3 else uSize r
def encB (x : Int) : ByteArray := if uSize x = 0 then bytesOf (uBytes 65533 3) else bytesOf (uBytes x (uSize x))
def encode (l : List Int) : ByteArray := l.foldl (fun s x => s ++ encB x) ByteArray.empty
def clean (s : ByteArray) : ByteArray := encode (decodeL s)
abbrev Span := Int × Int × Unit
abbrev Chg := Span × Span × Unit
/-- An inlay: number, place, bias, key, text. -/
abbrev Inl := Int × Int × Int × Int × ByteArray × Unit
abbrev ISet := Int × List Inl × Unit
abbrev WSet := Int × List Inl × Int × Unit
def w64 (n : Int) : Int := IntKind.i64.wrap n
def within (s : Span) : Bool := decide (0 ≤ s.1) && decide (s.1 ≤ s.2.1) && decide (s.2.1 ≤ 1099511627776)
def zeroC : Chg := ((0, 0, ()), (0, 0, ()), ())
def okStep (last c : Chg) (first : Bool) : Bool :=
  within c.1 && within c.2.1 && !(decide (c.1.1 = c.1.2.1) && decide (c.2.1.1 = c.2.1.2.1)) &&
    decide (c.1.1 - last.1.2.1 = c.2.1.1 - last.2.1.2.1) && decide (last.1.2.1 ≤ c.1.1) && (first || decide (c.1.1 ≠ last.1.2.1))
def normFrom (last : Chg) (first : Bool) : List Chg → Bool
  | [] => true
  | c :: r => okStep last c first && normFrom c false r
def normal (l : List Chg) : Bool := normFrom zeroC true l
def size (s : Span) : Int := w64 (s.2.1 - s.1)
def delta (l : List Chg) : Int := l.foldl (fun n c => w64 (n + w64 (size c.2.1 - size c.1))) 0
def mapTo (at_ bias : Int) : List Chg → Int → Int
  | [], shift => at_ + shift
  | c :: r, shift => if at_ < c.1.1 then at_ + shift else if at_ ≤ c.1.2.1 then (if bias = 0 then c.2.1.1 else c.2.1.2.1) else mapTo at_ bias r (c.2.1.2.1 - c.1.2.1)
def mapP (l : List Chg) (at_ bias : Int) : Int × Int × Unit :=
  if normal l = false then (0, 4, ()) else if at_ < 0 ∨ at_ > 1099511627776 ∨ (bias ≠ 0 ∧ bias ≠ 1) then (0, 1, ()) else (mapTo at_ bias l 0, 0, ())
def refMap (at_ bias : Int) : List Chg → Int → Int
  | [], shift => at_ + shift
  | c :: r, shift => if c.1.1 ≤ at_ ∧ at_ ≤ c.1.2.1 then (if bias = 0 then c.2.1.1 else c.2.1.2.1) else refMap at_ bias r (if at_ > c.1.2.1 then c.2.1.2.1 - c.1.2.1 else shift)
def endOf (l : List Chg) : Int := match l.getLast? with | some c => c.1.2.1 | none => 0
def invert (l : List Chg) : List Chg := l.map fun c => (c.2.1, c.1, ())
def cmpI (a b : Int) : Int := if a < b then -1 else if b < a then 1 else 0
def firstNZ : List Int → Int
  | [] => 0
  | x :: r => if x = 0 then firstNZ r else x
def txt (x : Inl) : ByteArray := x.2.2.2.2.1
def hasNL (s : ByteArray) : Bool := s.data.toList.contains 10
/-- What is wrong with an inlay. -/
def wrongI (n : Int) (x : Inl) : Int :=
  if x.1 < 1 ∨ x.2.1 < 0 ∨ x.2.1 > n ∨ (x.2.2.1 ≠ 0 ∧ x.2.2.1 ≠ 1) then 1 else if ((decodeL (txt x)).length : Int) > 40 then 2 else if (txt x).size = 0 ∨ hasNL (txt x) = true then 4 else 0
def hasId (i : Int) (l : List Inl) : Bool := l.any fun x => decide (x.1 = i)
def wrongW (n : Int) (l : List Inl) (x : Inl) : Int := if wrongI n x ≠ 0 then wrongI n x else if hasId x.1 l = true then 8 else 0
def errI (n : Int) : List Inl → List Inl → Int
  | _, [] => 0
  | seen, x :: r => if wrongW n seen x ≠ 0 then wrongW n seen x else errI n (seen ++ [x]) r
def cmpL (a b : Inl) : Int := firstNZ [cmpI a.2.1 b.2.1, cmpI a.2.2.2.1 b.2.2.2.1, cmpI a.1 b.1]
def sortI (l : List Inl) : List Inl := sortBy cmpL l
def aheadI (a b : Inl) : Bool := if a.2.1 ≠ b.2.1 then decide (a.2.1 < b.2.1) else if a.2.2.2.1 ≠ b.2.2.2.1 then decide (a.2.2.2.1 < b.2.2.2.1) else decide (a.1 < b.1)
def insI1 (x : Inl) : List Inl → List Inl
  | [] => [x]
  | y :: r => if aheadI x y = true then x :: y :: r else y :: insI1 x r
def insI (l : List Inl) : List Inl := l.foldl (fun o x => insI1 x o) []
def cleanI (x : Inl) : Inl := (x.1, x.2.1, x.2.2.1, x.2.2.2.1, clean (txt x), ())
def wrongN (n : Int) (l : List Inl) : Int := if n < 0 ∨ n > 1099511627776 then 1 else if (l.length : Int) > 60 then 5 else errI n [] l
def newI (n : Int) (l : List Inl) : Option ISet × Int × Unit := if wrongN n l = 0 then (some (n, sortI (l.map cleanI), ()), 0, ()) else (none, wrongN n l, ())
def newW (n : Int) (l : List Inl) : WSet := if wrongN n l = 0 then (n, insI (l.map cleanI), 0, ()) else (0, [], wrongN n l, ())
def allI (s : Option ISet) : List Inl := match s with | none => [] | some s => s.2.1
def lenI (s : Option ISet) : Int := match s with | none => 0 | some s => s.1
def inI (f t : Int) (x : Inl) : Bool := !(decide (x.2.1 < f) || decide (x.2.1 > t))
def rmOk : List Int → List Int → Bool
  | _, [] => true
  | m, i :: r => m.contains i && rmOk (m.erase i) r
def spliceI (s : Option ISet) (rm : List Int) (add : List Inl) : Option ISet × Int × Unit :=
  if rmOk ((allI s).map (·.1)) rm = true then newI (lenI s) ((allI s).filter (fun x => !rm.contains x.1) ++ add) else (none, 6, ())
def timesI (n : Int) (l : List Int) : Int := (l.count n : Int)
def spliceW (w : WSet) (rm : List Int) (add : List Inl) : WSet :=
  if (((w.2.1).countP (fun x => decide (rm.count x.1 = 1)) : Nat) : Int) < (rm.length : Int) then (0, [], 6, ()) else newW w.1 (w.2.1.filter (fun x => decide (rm.count x.1 = 0)) ++ add)
def moveI (p : List Chg) (x : Inl) : Inl := (x.1, (mapP p x.2.1 x.2.2.1).1, x.2.2.1, x.2.2.2.1, txt x, ())
def moveW (p : List Chg) (x : Inl) : Inl := (x.1, refMap x.2.1 x.2.2.1 p 0, x.2.2.1, x.2.2.2.1, txt x, ())
def shiftI (s : Option ISet) (p : List Chg) : Option ISet × Int × Unit :=
  if normal p = false then (none, 4, ()) else if endOf p > lenI s ∨ w64 (lenI s + delta p) > 1099511627776 then (none, 1, ()) else newI (w64 (lenI s + delta p)) ((allI s).map (moveI p))
def shiftW (w : WSet) (p : List Chg) : WSet :=
  if normal p = false then (0, [], 4, ()) else if endOf p > w.1 ∨ w64 (w.1 + delta p) > 1099511627776 then (0, [], 1, ()) else newW (w64 (w.1 + delta p)) (w.2.1.map (moveW p))
def sameL (a b : List Inl) : Bool := decide (a = b)
def isI (s : Option ISet) (e : Int) (w : WSet) : Bool := decide (e = w.2.2.1) && (s.isNone == decide (w.2.2.1 ≠ 0)) && (s.isNone || (sameL (allI s) w.2.1 && decide (lenI s = w.1)))
def longI (l : List Inl) : Bool := decide ((l.length : Int) > 100) || l.any fun x => decide (((txt x).size : Int) > 400)
/-- Texts are short. -/
def shortL (l : List Inl) : Prop := ∀ x ∈ l, (txt x).size ≤ 100000
/-- A set as it may be. -/
def okI (s : Option ISet) : Prop := (allI s).length ≤ 10000 ∧ shortL (allI s) ∧ ((allI s).map (·.1)).Nodup ∧ (0 : Int) ≤ lenI s ∧ lenI s ≤ (1099511627776 : Int)
def okW (w : WSet) : Prop := w.2.1.length ≤ 10000 ∧ shortL w.2.1 ∧ (0 : Int) ≤ w.1 ∧ w.1 ≤ (1099511627776 : Int)
def cSize : Contract := { arg := .pair t24 .unit, res := .int .i64, one := true, pre := fun _ => True, fn := fun x => size x.1 }
def cDelta : Contract := { arg := .pair t45 .unit, res := .int .i64, one := true, pre := fun x => x.1.length ≤ maxLen, fn := fun x => delta x.1 }
def cWithin : Contract := { arg := .pair t24 .unit, res := .bool, one := true, pre := fun _ => True, fn := fun x => within x.1 }
def cNormal : Contract := { arg := .pair t45 .unit, res := .bool, one := true, pre := fun x => x.1.length ≤ maxLen, fn := fun x => normal x.1 }
def cRefNormal : Contract := { arg := .pair t48 .unit, res := .bool, one := true, pre := fun x => x.1.length ≤ maxLen, fn := fun x => normal x.1 }
def cChanges : Contract := { arg := .pair t45 .unit, res := t48, one := true, pre := fun x => x.1.length ≤ 1000000000, fn := fun x => x.1 }
def cMap : Contract := { arg := .pair t45 (.pair t3 (.pair t3 .unit)), res := .pair t3 (.pair t28 .unit), one := false, pre := fun x => x.1.length ≤ maxLen, fn := fun x => mapP x.1 x.2.1 x.2.2.1 }
def cRefMap : Contract := { arg := .pair t48 (.pair t3 (.pair t3 .unit)), res := t3, one := true, pre := fun x => x.1.length ≤ maxLen ∧ normal x.1 = true ∧ (0 : Int) ≤ x.2.1 ∧ x.2.1 ≤ (1099511627776 : Int), fn := fun x => refMap x.2.1 x.2.2.1 x.1 0 }
def cCmp : Contract := { arg := .pair t3 (.pair t3 .unit), res := .int .i64, one := true, pre := fun _ => True, fn := fun x => cmpI x.1 x.2.1 }
def cOr : Contract := { arg := .pair t40 .unit, res := .int .i64, one := true, pre := fun x => x.1.length ≤ maxLen, fn := fun x => firstNZ x.1 }
def cRight : Contract := { arg := .pair t21 .unit, res := .bool, one := true, pre := fun _ => True, fn := fun x => right x.1 }
def cUSize : Contract := { arg := .pair t21 .unit, res := t3, one := true, pre := fun _ => True, fn := fun x => uSize x.1 }
def cOne : Contract := { arg := .pair t21 (.pair t3 .unit), res := t9, one := true, pre := fun x => (0 : Int) ≤ x.1 ∧ x.1 ≤ (1114111 : Int) ∧ uSize x.1 = x.2.1, fn := fun x => bytesOf (uBytes x.1 x.2.1) }
def cNumber : Contract := { arg := .pair t9 .unit, res := t21, one := true, pre := fun x => 1 ≤ x.1.size ∧ x.1.size ≤ 4, fn := fun x => uNum (strBytes x.1) }
def cRStep : Contract := { arg := .pair t9 (.pair t3 .unit), res := t96, one := true, pre := fun x => x.1.size ≤ maxLen, fn := fun x => uStep x.1 x.2.1 }
def cRDecode : Contract := { arg := .pair t9 .unit, res := t68, one := true, pre := fun x => x.1.size ≤ 1000000000, fn := fun x => decodeL x.1 }
def cDecode : Contract := { arg := .pair t9 .unit, res := t68, one := true, pre := fun x => x.1.size ≤ 1000000000, fn := fun x => decodeL x.1 }
def cCount : Contract := { arg := .pair t9 .unit, res := t3, one := true, pre := fun x => x.1.size ≤ maxLen, fn := fun x => ((decodeL x.1).length : Int) }
def cREncode : Contract := { arg := .pair t68 .unit, res := t9, one := true, pre := fun x => x.1.length ≤ 1000000000, fn := fun x => encode x.1 }
def cEncode : Contract := { arg := .pair t68 .unit, res := t9, one := true, pre := fun x => x.1.length ≤ 1000000000, fn := fun x => encode x.1 }
def cClean : Contract := { arg := .pair t9 .unit, res := t9, one := true, pre := fun x => x.1.size ≤ 100000000, fn := fun x => clean x.1 }
def cContains : Contract := { arg := .pair t9 (.pair t9 .unit), res := .bool, one := true, pre := fun x => x.2.1 = (ByteArray.mk #[10]), fn := fun x => hasNL x.1 }
def cOrder : Contract := cOrd t42 cmpL
def cAhead : Contract := { arg := .pair t42 (.pair t42 .unit), res := .bool, one := true, pre := fun _ => True, fn := fun x => aheadI x.1 x.2.1 }
def cTimes : Contract := { arg := .pair t3 (.pair t40 .unit), res := t3, one := true, pre := fun x => x.2.1.length ≤ maxLen, fn := fun x => timesI x.1 x.2.1 }
def cWrong : Contract := { arg := .pair t3 (.pair t42 .unit), res := t28, one := true, pre := fun x => (txt x.2.1).size ≤ maxLen, fn := fun x => wrongI x.1 x.2.1 }
def cRefWrong : Contract := { arg := .pair t3 (.pair t22 (.pair t42 .unit)), res := t3, one := true, pre := fun x => x.2.1.length ≤ maxLen ∧ (txt x.2.2.1).size ≤ 1000000000, fn := fun x => wrongW x.1 x.2.1 x.2.2.1 }
def cClone : Contract := { arg := .pair t22 .unit, res := t22, one := true, pre := fun x => x.1.length ≤ 10000, fn := fun x => x.1 }
def cCloneO : Contract := { arg := .pair t22 .unit, res := t22, one := true, pre := fun x => x.1.length ≤ 10000, fn := fun x => x.1, own := some 42 }
def cAll : Contract := { arg := .pair t27 .unit, res := t22, one := true, pre := fun x => (allI x.1).length ≤ 10000, fn := fun x => allI x.1 }
def cAllO : Contract := { arg := .pair t27 .unit, res := t22, one := true, pre := fun x => (allI x.1).length ≤ 10000, fn := fun x => allI x.1, own := some 42 }
def cLen : Contract := { arg := .pair t27 .unit, res := t3, one := true, pre := fun _ => True, fn := fun x => lenI x.1 }
def cNew : Contract := { arg := .pair t3 (.pair t22 .unit), res := .pair t27 (.pair t28 .unit), one := false, pre := fun x => x.2.1.length ≤ maxLen ∧ shortL x.2.1, fn := fun x => newI x.1 x.2.1 }
def cRefNew : Contract := { arg := .pair t3 (.pair t22 .unit), res := t32, one := true, pre := fun x => x.2.1.length ≤ maxLen ∧ shortL x.2.1, fn := fun x => newW x.1 x.2.1 }
def cSame : Contract := { arg := .pair t22 (.pair t22 .unit), res := .bool, one := true, pre := fun x => x.1.length ≤ maxLen ∧ x.2.1.length ≤ maxLen, fn := fun x => sameL x.1 x.2.1 }
def cIs : Contract := { arg := .pair t27 (.pair t28 (.pair t32 .unit)), res := .bool, one := true, pre := fun x => (allI x.1).length ≤ 10000 ∧ x.2.2.1.2.1.length ≤ 10000, fn := fun x => isI x.1 x.2.1 x.2.2.1 }
def cBetween : Contract := { arg := .pair t27 (.pair t3 (.pair t3 .unit)), res := t22, one := true, pre := fun x => (allI x.1).length ≤ 10000, fn := fun x => (allI x.1).filter (inI x.2.1 x.2.2.1) }
def cRefBetween : Contract := { arg := .pair t32 (.pair t3 (.pair t3 .unit)), res := t22, one := true, pre := fun x => x.1.2.1.length ≤ 10000, fn := fun x => (x.1.2.1).filter (inI x.2.1 x.2.2.1) }
def cSplice : Contract := { arg := .pair t27 (.pair t40 (.pair t22 .unit)), res := .pair t27 (.pair t28 .unit), one := false, pre := fun x => okI x.1 ∧ x.2.1.length ≤ 10000 ∧ x.2.2.1.length ≤ 10000 ∧ shortL x.2.2.1, fn := fun x => spliceI x.1 x.2.1 x.2.2.1 }
def cRefSplice : Contract := { arg := .pair t32 (.pair t40 (.pair t22 .unit)), res := t32, one := true, pre := fun x => okW x.1 ∧ x.2.1.length ≤ 10000 ∧ x.2.2.1.length ≤ 10000 ∧ shortL x.2.2.1, fn := fun x => spliceW x.1 x.2.1 x.2.2.1 }
def cShift : Contract := { arg := .pair t27 (.pair t45 .unit), res := .pair t27 (.pair t28 .unit), one := false, pre := fun x => okI x.1 ∧ x.2.1.length ≤ 1000, fn := fun x => shiftI x.1 x.2.1 }
def cRefShift : Contract := { arg := .pair t32 (.pair t48 .unit), res := t32, one := true, pre := fun x => okW x.1 ∧ (∀ m ∈ x.1.2.1, (0 : Int) ≤ m.2.1 ∧ m.2.1 ≤ (1099511627776 : Int)) ∧ x.2.1.length ≤ 1000, fn := fun x => shiftW x.1 x.2.1 }
def cLong : Contract := { arg := .pair t22 .unit, res := .bool, one := true, pre := fun x => x.1.length ≤ maxLen, fn := fun x => longI x.1 }
def cThree : Contract := { arg := .unit, res := .bool, one := true, pre := fun _ => True, fn := fun _ => true }
def cInlaysNew : Contract := lawC (.pair t3 (.pair t22 (.pair t24 .unit))) (fun x => x.2.1.length ≤ maxLen)
def cInlaysBack : Contract := lawC (.pair t3 (.pair t22 (.pair t22 .unit))) (fun x => x.2.1.length ≤ maxLen ∧ x.2.2.1.length ≤ maxLen)
def cInlaysTogether : Contract := lawC (.pair t3 (.pair t22 (.pair t45 .unit))) (fun x => x.2.1.length ≤ maxLen ∧ x.2.2.1.length ≤ maxLen)
def cInlaysSteps : Contract := lawC (.pair t3 (.pair t22 (.pair t51 .unit))) (fun x => x.2.1.length ≤ maxLen ∧ x.2.2.1.length ≤ maxLen ∧ ∀ o ∈ x.2.2.1, o.2.1.length ≤ maxLen ∧ o.2.2.1.length ≤ maxLen ∧ o.2.2.2.1.length ≤ maxLen)
def cInlaysNil : Contract := lawC (.pair t40 .unit) (fun x => x.1.length ≤ maxLen)
def rSort : RContract := { t := t42, e := 42, pre := fun xs => List.length xs ≤ 100000, post := fun xs ys => ys.Perm xs ∧ ys.Pairwise (fun a b => ¬ cmpL b a < 0), back := false, tail := [26] }
end Go.Fr.C13
