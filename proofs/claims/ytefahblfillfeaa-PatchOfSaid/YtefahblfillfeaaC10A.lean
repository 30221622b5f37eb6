/-
  Chapter 10: types, what the functions compute, their contracts. Conditions: none.
-/
import Derived.Test.YtefahblfillfeaaFrW
import Derived.Test.YtefahblfillfeaaProg
namespace Go.Fr.C10
open Go Go.Fr Go.Proofs
abbrev t3 : Ty := .int .i64
abbrev t4 : Ty := .bool
abbrev t5 : Ty := .int .u8
abbrev t9 : Ty := .str
abbrev t21 : Ty := .int .i32
abbrev t54 : Ty := .pair t3 (.pair t3 .unit)
abbrev t56 : Ty := .pair t54 (.pair t54 .unit)
abbrev t22 : Ty := .sl t56
abbrev t57 : Ty := .pair t54 (.pair t54 .unit)
abbrev t25 : Ty := .sl t57
abbrev t27 : Ty := .int .i64
abbrev t36 : Ty := .pair t3 (.pair t3 (.pair t9 .unit))
abbrev t33 : Ty := .sl t36
abbrev t37 : Ty := .sl t21
abbrev t62 : Ty := .pair t21 (.pair t3 .unit)
abbrev t73 : Ty := .sl t5
def tab : List (TypeId × TI) := [
  (3, ⟨.int .i64, 1, 8, [.tv (.int .i64) (0 : Int)], some t3⟩),
  (4, ⟨.bool, 1, 1, [.blit false], some t4⟩),
  (5, ⟨.int .u8, 1, 1, [.tv (.int .u8) (0 : Int)], some t5⟩),
  (9, ⟨.str, 1, 16, [.tv .str ByteArray.empty], some t9⟩),
  (21, ⟨.int .i32, 1, 4, [.tv (.int .i32) (0 : Int)], some t21⟩),
  (54, ⟨.struct [(0, 1, false), (1, 1, false)], 2, 16, [.tv (.int .i64) (0 : Int), .tv (.int .i64) (0 : Int)], some t54⟩),
  (56, ⟨.struct [(0, 2, true), (2, 2, true)], 4, 32, [.tv (.int .i64) (0 : Int), .tv (.int .i64) (0 : Int), .tv (.int .i64) (0 : Int), .tv (.int .i64) (0 : Int)], some t56⟩),
  (22, ⟨.slice 56, 1, 24, [.raw (.slice none 0 0)], some t22⟩),
  (57, ⟨.struct [(0, 2, true), (2, 2, true)], 4, 32, [.tv (.int .i64) (0 : Int), .tv (.int .i64) (0 : Int), .tv (.int .i64) (0 : Int), .tv (.int .i64) (0 : Int)], some t57⟩),
  (25, ⟨.slice 57, 1, 24, [.raw (.slice none 0 0)], some t25⟩),
  (27, ⟨.int .i64, 1, 8, [.tv (.int .i64) (0 : Int)], some t27⟩),
  (36, ⟨.struct [(0, 1, false), (1, 1, false), (2, 1, false)], 3, 32, [.tv (.int .i64) (0 : Int), .tv (.int .i64) (0 : Int), .tv .str ByteArray.empty], some t36⟩),
  (33, ⟨.slice 36, 1, 24, [.raw (.slice none 0 0)], some t33⟩),
  (37, ⟨.slice 21, 1, 24, [.raw (.slice none 0 0)], some t37⟩),
  (62, ⟨.struct [(0, 1, false), (1, 1, false)], 2, 16, [.tv (.int .i32) (0 : Int), .tv (.int .i64) (0 : Int)], some t62⟩),
  (73, ⟨.slice 5, 1, 24, [.raw (.slice none 0 0)], some t73⟩)]
theorem tab_ok : tabOk Try.prog tab = true := by kernel_rfl
theorem mixed : Try.prog.follows .mixedOrders = true := by kernel_rfl
abbrev Span := Int × Int × Unit
abbrev Chg := Span × Span × Unit
abbrev Edit := Int × Int × ByteArray × Unit
def w64 (n : Int) : Int := IntKind.i64.wrap n
def maxI : Int := 1099511627776

def within (s : Span) : Bool := decide (0 ≤ s.1) && decide (s.1 ≤ s.2.1) && decide (s.2.1 ≤ 1099511627776)
def zeroC : Chg := ((0, 0, ()), (0, 0, ()), ())
def okStep (last c : Chg) (first : Bool) : Bool :=
  within c.1 && within c.2.1 && !(decide (c.1.1 = c.1.2.1) && decide (c.2.1.1 = c.2.1.2.1)) &&
    decide (c.1.1 - last.1.2.1 = c.2.1.1 - last.2.1.2.1) && decide (last.1.2.1 ≤ c.1.1) && (first || decide (c.1.1 ≠ last.1.2.1))
def normFrom (last : Chg) (first : Bool) : List Chg → Bool
  | [] => true
  | c :: r => okStep last c first && normFrom c false r
def normal (l : List Chg) : Bool := normFrom zeroC true l

def size (s : Span) : Int := w64 (s.2.1 - s.1)
def delta (l : List Chg) : Int := l.foldl (fun n c => w64 (n + w64 (size c.2.1 - size c.1))) 0
def mapTo (at_ bias : Int) : List Chg → Int → Int
  | [], shift => at_ + shift
  | c :: r, shift => if at_ < c.1.1 then at_ + shift else if at_ ≤ c.1.2.1 then (if bias = 0 then c.2.1.1 else c.2.1.2.1) else mapTo at_ bias r (c.2.1.2.1 - c.1.2.1)
def mapP (l : List Chg) (at_ bias : Int) : Int × Int × Unit :=
  if normal l = false then (0, 4, ()) else if at_ < 0 ∨ at_ > 1099511627776 ∨ (bias ≠ 0 ∧ bias ≠ 1) then (0, 1, ()) else (mapTo at_ bias l 0, 0, ())
def refMap (at_ bias : Int) : List Chg → Int → Int
  | [], shift => at_ + shift
  | c :: r, shift => if c.1.1 ≤ at_ ∧ at_ ≤ c.1.2.1 then (if bias = 0 then c.2.1.1 else c.2.1.2.1) else refMap at_ bias r (if at_ > c.1.2.1 then c.2.1.2.1 - c.1.2.1 else shift)
def keptFrom (at_ : Int) : List Chg → Int → Int
  | [], shift => at_ + shift
  | c :: r, shift => if at_ < c.1.1 then at_ + shift else if at_ < c.1.2.1 then -1 else keptFrom at_ r (c.2.1.2.1 - c.1.2.1)
def kept (l : List Chg) (at_ : Int) : Int := keptFrom at_ l 0
def endOf (l : List Chg) : Int := match l.getLast? with | some c => c.1.2.1 | none => 0
def both (a b : List Chg) (at_ : Int) : Int := if kept a at_ ≥ 0 then kept b (kept a at_) else kept a at_
/-- The document's way, place by place. -/
def cstep (K : Int → Int) (s : List Chg × Int × Int) (at_ : Nat) : List Chg × Int × Int :=
  if K at_ < 0 then s else (if s.2.1 < (at_ : Int) ∨ s.2.2 < K at_ then s.1 ++ [((s.2.1, (at_ : Int), ()), (s.2.2, K at_, ()), ())] else s.1, (at_ : Int) + 1, K at_ + 1)
def cplaces (K : Int → Int) (n : Nat) : List Chg × Int × Int := (List.range n).foldl (cstep K) ([], 0, 0)
def refCompose (a b : List Chg) : List Chg := (cplaces (both a b) (endOf a + endOf b + 2).toNat).1
def small (l : List Chg) : Bool := decide (l.length ≤ 60) && normal l && l.all fun c => decide (c.1.2.1 ≤ 2000) && decide (c.2.1.2.1 ≤ 2000)
/-- What is kept, piece by piece: from where, to where, how much. -/
def segsFrom (last : Chg) : List Chg → List (Int × Int × Int)
  | [] => [(last.1.2.1, last.2.1.2.1, 2199023255552)]
  | c :: r => (last.1.2.1, last.2.1.2.1, c.1.1 - last.1.2.1) :: segsFrom c r
def segs (l : List Chg) : List (Int × Int × Int) := segsFrom zeroC l
/-- What two pieces keep is handed on. -/
def sstep (p q : Int × Int × Int) (s : List Chg × Int × Int) : List Chg × Int × Int :=
  let low := max p.2.1 q.1
  let high := min (p.2.1 + p.2.2) (q.1 + q.2.2)
  if low ≥ high then s else
    let x := p.1 + low - p.2.1
    let y := q.2.1 + low - q.1
    (if s.2.1 < x ∨ s.2.2 < y then s.1 ++ [((s.2.1, x, ()), (s.2.2, y, ()), ())] else s.1, x + high - low, y + high - low)
def srow (p : Int × Int × Int) (qs : List (Int × Int × Int)) (s : List Chg × Int × Int) : List Chg × Int × Int := qs.foldl (fun s q => sstep p q s) s
def sall (ps qs : List (Int × Int × Int)) (s : List Chg × Int × Int) : List Chg × Int × Int := ps.foldl (fun s p => srow p qs s) s
def composeL (a b : List Chg) : List Chg := (sall (segs a) (segs b) ([], 0, 0)).1
def compose (a b : List Chg) : List Chg × Int × Unit :=
  if normal a = false ∨ normal b = false then ([], 4, ()) else if normal (composeL a b) then (composeL a b, 0, ()) else ([], 5, ())
def invert (l : List Chg) : List Chg := l.map fun c => (c.2.1, c.1, ())

def cSize : Contract := { arg := .pair t54 .unit, res := .int .i64, one := true, pre := fun _ => True, fn := fun x => size x.1 }
def cDelta : Contract := { arg := .pair t22 .unit, res := .int .i64, one := true, pre := fun x => x.1.length ≤ maxLen, fn := fun x => delta x.1 }
def cWithin : Contract := { arg := .pair t54 .unit, res := .bool, one := true, pre := fun _ => True, fn := fun x => within x.1 }
def cNormal : Contract := { arg := .pair t22 .unit, res := .bool, one := true, pre := fun x => x.1.length ≤ maxLen, fn := fun x => normal x.1 }
def cRefs : Contract := { arg := .pair t22 .unit, res := t25, one := true, pre := fun x => x.1.length ≤ 1000000000, fn := fun x => x.1 }
def cMap : Contract := { arg := .pair t22 (.pair t3 (.pair t3 .unit)), res := .pair t3 (.pair t27 .unit), one := false, pre := fun x => x.1.length ≤ maxLen, fn := fun x => mapP x.1 x.2.1 x.2.2.1 }
def cRefMap : Contract := { arg := .pair t25 (.pair t3 (.pair t3 .unit)), res := t3, one := true, pre := fun x => x.1.length ≤ maxLen ∧ normal x.1 = true ∧ 0 ≤ x.2.1 ∧ x.2.1 ≤ 1099511627776, fn := fun x => refMap x.2.1 x.2.2.1 x.1 0 }
def cKept : Contract := { arg := .pair t25 (.pair t3 .unit), res := t3, one := true, pre := fun x => x.1.length ≤ maxLen ∧ normal x.1 = true ∧ 0 ≤ x.2.1 ∧ x.2.1 ≤ 10995116277760, fn := fun x => kept x.1 x.2.1 }
def cEnd : Contract := { arg := .pair t25 .unit, res := t3, one := true, pre := fun x => x.1.length ≤ maxLen, fn := fun x => endOf x.1 }
def cRefCompose : Contract := { arg := .pair t25 (.pair t25 .unit), res := t25, one := true, pre := fun x => x.1.length ≤ 60 ∧ x.2.1.length ≤ 60 ∧ normal x.1 = true ∧ normal x.2.1 = true ∧ endOf x.1 ≤ 2000 ∧ endOf x.2.1 ≤ 2000, fn := fun x => refCompose x.1 x.2.1 }
def cSmall : Contract := { arg := .pair t22 .unit, res := .bool, one := true, pre := fun x => x.1.length ≤ maxLen, fn := fun x => small x.1 }
def cSame : Contract := { arg := .pair t25 (.pair t25 .unit), res := .bool, one := true, pre := fun x => x.1.length ≤ maxLen ∧ x.2.1.length ≤ maxLen, fn := fun x => decide ((x.1 : List Chg) = x.2.1) }
def cCompose : Contract := { arg := .pair t22 (.pair t22 .unit), res := .pair t22 (.pair t27 .unit), one := false, pre := fun x => x.1.length ≤ 10000 ∧ x.2.1.length ≤ 10000, fn := fun x => compose x.1 x.2.1 }
def cInvert : Contract := { arg := .pair t22 .unit, res := t22, one := true, pre := fun x => x.1.length ≤ 1000000000, fn := fun x => invert x.1 }
def cTwo : Contract := { arg := .unit, res := .bool, one := true, pre := fun _ => True, fn := fun _ => true }
def top {A : Type} : A → Prop := fun _ => True
def cPatchNormal : Contract := lawC (.pair t22 (.pair t3 (.pair t3 .unit))) (fun x => x.1.length ≤ maxLen)
def cPatchComposes : Contract := lawC (.pair t22 (.pair t22 .unit)) (fun x => x.1.length ≤ maxLen ∧ x.2.1.length ≤ maxLen)
def cPatchBoth : Contract := lawC (.pair t22 (.pair t22 (.pair t3 .unit))) (fun x => x.1.length ≤ maxLen ∧ x.2.1.length ≤ maxLen)
def cPatchBrackets : Contract := lawC (.pair t22 (.pair t22 (.pair t22 .unit))) (fun x => x.1.length ≤ maxLen ∧ x.2.1.length ≤ maxLen ∧ x.2.2.1.length ≤ maxLen)
def cPatchTurns : Contract := lawC (.pair t22 (.pair t3 .unit)) (fun x => x.1.length ≤ maxLen)
end Go.Fr.C10
