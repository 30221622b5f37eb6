/-
  Chapter 10: what the functions of PatchOf compute, their contracts. Conditions: none.
-/
import Derived.Test.YtefahblfillfeaaC10R
import Derived.Test.YtefahblfillfeaaFrZ
namespace Go.Fr.C10
open Go Go.Fr Go.Proofs

def inside (n a b : Int) : Bool := decide (0 ≤ a ∧ a ≤ b ∧ b ≤ n)
def ckFrom (n : Int) : Int → List Edit → Int
  | _, [] => 0
  | last, x :: r => if inside n x.1 x.2.1 = false then 1 else if x.1 < last then 90 else ckFrom n x.2.1 r
def check (n : Int) (l : List Edit) : Int := if l.length > 64 then 2 else ckFrom n 0 l
def runes (x : Edit) : Int := ((decodeL x.2.2.1).length : Int)
def chgOf (shift : Int) (x : Edit) : Chg := ((x.1, x.2.1, ()), (x.1 + shift, x.1 + shift + runes x, ()), ())
def addC (out : List Chg) (c : Chg) : List Chg :=
  if c.1.1 = c.1.2.1 ∧ c.2.1.1 = c.2.1.2.1 then out
  else if 0 < out.length ∧ (out.getD (out.length - 1) zeroC).1.2.1 = c.1.1 then
    out.set (out.length - 1) (((out.getD (out.length - 1) zeroC).1.1, c.1.2.1, ()), ((out.getD (out.length - 1) zeroC).2.1.1, c.2.1.2.1, ()), ())
  else out ++ [c]
def ofStep (s : List Chg × Int) (x : Edit) : List Chg × Int := (addC s.1 (chgOf s.2 x), s.2 + runes x - (x.2.1 - x.1))
def ofAll (l : List Edit) : List Chg × Int := l.foldl ofStep ([], 0)
def fair (l : List Edit) : Prop := l.length ≤ 64 ∧ ∀ x ∈ l, 0 ≤ x.1 ∧ x.1 ≤ x.2.1 ∧ x.2.1 ≤ 1000 ∧ x.2.2.1.size ≤ 500
def cNumber : Contract := { arg := .pair t9 .unit, res := t21, one := true, pre := fun x => 1 ≤ x.1.size ∧ x.1.size ≤ 4, fn := fun x => uNum (strBytes x.1) }
def cUSize : Contract := { arg := .pair t21 .unit, res := t3, one := true, pre := fun _ => True, fn := fun x => uSize x.1 }
def cOne : Contract := { arg := .pair t21 (.pair t3 .unit), res := t9, one := true, pre := fun x => (0 : Int) ≤ x.1 ∧ x.1 ≤ (1114111 : Int) ∧ uSize x.1 = x.2.1, fn := fun x => bytesOf (uBytes x.1 x.2.1) }
def cStep : Contract := { arg := .pair t9 (.pair t3 .unit), res := t62, one := true, pre := fun x => x.1.size ≤ maxLen, fn := fun x => uStep x.1 x.2.1 }
def cDecode : Contract := { arg := .pair t9 .unit, res := t37, one := true, pre := fun x => x.1.size ≤ 1000000000, fn := fun x => decodeL x.1 }
def cCount : Contract := { arg := .pair t9 .unit, res := t3, one := true, pre := fun x => x.1.size ≤ maxLen, fn := fun x => ((decodeL x.1).length : Int) }
def cInside : Contract := { arg := .pair t3 (.pair t3 (.pair t3 .unit)), res := .bool, one := true, pre := fun _ => True, fn := fun x => inside x.1 x.2.1 x.2.2.1 }
def cCheck : Contract := { arg := .pair t3 (.pair t33 .unit), res := t3, one := true, pre := fun x => x.2.1.length ≤ maxLen, fn := fun x => check x.1 x.2.1 }
def cOf : Contract := { arg := .pair t33 .unit, res := t22, one := true, pre := fun x => fair x.1, fn := fun x => (ofAll x.1).1 }
def cRefOf : Contract := { arg := .pair t33 .unit, res := t25, one := true, pre := fun x => fair x.1, fn := fun x => (ofAll x.1).1 }
def cPatchOf : Contract := lawC (.pair t3 (.pair t33 .unit)) (fun x => x.2.1.length ≤ maxLen ∧ ∀ e ∈ x.2.1, e.2.2.1.size ≤ maxLen)
end Go.Fr.C10
