/-
  Chapter 01: types, what the functions compute, their contracts. Conditions: none.
-/
import Derived.Test.YtldninnfpindoaaDoorFrZ
import Derived.Test.YtldninnfpindoaaDoorProg
namespace Go.Fr.C01
open Go Go.Fr Go.Proofs
abbrev t3 : Ty := .int .i64
abbrev t4 : Ty := .bool
abbrev t5 : Ty := .int .u8
abbrev t9 : Ty := .str
abbrev t21 : Ty := .int .i32
abbrev t22 : Ty := .sl t21
abbrev t36 : Ty := .pair t21 (.pair t3 .unit)
abbrev t40 : Ty := .pair t21 (.pair t21 (.pair t21 (.pair t21 .unit)))
abbrev t41 : Ty := .sl t5
def tab : List (TypeId × TI) := [
  (3, ⟨.int .i64, 1, 8, [.tv (.int .i64) (0 : Int)], some t3⟩),
  (4, ⟨.bool, 1, 1, [.blit false], some t4⟩),
  (5, ⟨.int .u8, 1, 1, [.tv (.int .u8) (0 : Int)], some t5⟩),
  (9, ⟨.str, 1, 16, [.tv .str ByteArray.empty], some t9⟩),
  (21, ⟨.int .i32, 1, 4, [.tv (.int .i32) (0 : Int)], some t21⟩),
  (22, ⟨.slice 21, 1, 24, [.raw (.slice none 0 0)], some t22⟩),
  (36, ⟨.struct [(0, 1, false), (1, 1, false)], 2, 16, [.tv (.int .i32) (0 : Int), .tv (.int .i64) (0 : Int)], some t36⟩),
  (40, ⟨.array 4 21 1, 4, 16, [.tv (.int .i32) (0 : Int), .tv (.int .i32) (0 : Int), .tv (.int .i32) (0 : Int), .tv (.int .i32) (0 : Int)], some t40⟩),
  (41, ⟨.slice 5, 1, 24, [.raw (.slice none 0 0)], some t41⟩)]
theorem tab_ok : tabOk Tryd.prog tab = true := by kernel_rfl
theorem mixed : Tryd.prog.follows .mixedOrders = true := by kernel_rfl
/-- What the program's one variable holds. -/
def gl : Nat → Option ((t : Ty) × t.den) := fun g => bif Nat.beq g 0 then some ⟨t40, ((127 : Int), (2047 : Int), (65535 : Int), (1114111 : Int), ())⟩ else none
def right (r : Int) : Bool := decide (0 ≤ r ∧ r ≤ 1114111 ∧ (r < 55296 ∨ r > 57343))
def sizeR (r : Int) : Int := if uSize r = 0 then 3 else uSize r
def encB (x : Int) : ByteArray := if uSize x = 0 then bytesOf (uBytes 65533 3) else bytesOf (uBytes x (uSize x))
def encode (l : List Int) : ByteArray := l.foldl (fun s x => s ++ encB x) ByteArray.empty
def clean (s : ByteArray) : ByteArray := encode (decodeL s)
def good (s : ByteArray) : Bool := decide ((clean s).toList = s.toList)
def cRight : Contract := { arg := .pair t21 .unit, res := .bool, one := true, pre := fun _ => True, fn := fun x => right x.1 }
def cSize : Contract := { arg := .pair t21 .unit, res := t3, one := true, pre := fun _ => True, fn := fun x => sizeR x.1 }
def cRSize : Contract := { arg := .pair t21 .unit, res := t3, one := true, pre := fun _ => True, fn := fun x => sizeR x.1 }
def cUSize : Contract := { arg := .pair t21 .unit, res := t3, one := true, pre := fun _ => True, fn := fun x => uSize x.1 }
def cOne : Contract := { arg := .pair t21 (.pair t3 .unit), res := t9, one := true, pre := fun x => (0 : Int) ≤ x.1 ∧ x.1 ≤ (1114111 : Int) ∧ uSize x.1 = x.2.1, fn := fun x => bytesOf (uBytes x.1 x.2.1) }
def cNumber : Contract := { arg := .pair t9 .unit, res := t21, one := true, pre := fun x => 1 ≤ x.1.size ∧ x.1.size ≤ 4, fn := fun x => uNum (strBytes x.1) }
def cRStep : Contract := { arg := .pair t9 (.pair t3 .unit), res := t36, one := true, pre := fun x => x.1.size ≤ maxLen, fn := fun x => uStep x.1 x.2.1 }
def cStep : Contract := { arg := .pair t9 (.pair t3 .unit), res := .pair t21 (.pair t3 .unit), one := false, pre := fun x => x.1.size ≤ maxLen, fn := fun x => uStep x.1 x.2.1 }
def cRDecode : Contract := { arg := .pair t9 .unit, res := t22, one := true, pre := fun x => x.1.size ≤ 1000000000, fn := fun x => decodeL x.1 }
def cDecode : Contract := { arg := .pair t9 .unit, res := t22, one := true, pre := fun x => x.1.size ≤ 1000000000, fn := fun x => decodeL x.1 }
def cCount : Contract := { arg := .pair t9 .unit, res := t3, one := true, pre := fun x => x.1.size ≤ maxLen, fn := fun x => ((decodeL x.1).length : Int) }
def cREncode : Contract := { arg := .pair t22 .unit, res := t9, one := true, pre := fun x => x.1.length ≤ 1000000000, fn := fun x => encode x.1 }
def cEncode : Contract := { arg := .pair t22 .unit, res := t9, one := true, pre := fun x => x.1.length ≤ 1000000000, fn := fun x => encode x.1 }
def cClean : Contract := { arg := .pair t9 .unit, res := t9, one := true, pre := fun x => x.1.size ≤ 100000000, fn := fun x => clean x.1 }
def cGood : Contract := { arg := .pair t9 .unit, res := .bool, one := true, pre := fun x => x.1.size ≤ 100000000, fn := fun x => good x.1 }
def cRGood : Contract := { arg := .pair t9 .unit, res := .bool, one := true, pre := fun x => x.1.size ≤ 100000000, fn := fun x => good x.1 }
def cRunes : Contract := { arg := .pair t22 (.pair t22 .unit), res := .bool, one := true, pre := fun x => x.1.length ≤ maxLen ∧ x.2.1.length ≤ maxLen, fn := fun x => decide (x.1 = x.2.1) }
def cAcute : Contract := { arg := .unit, res := .bool, one := true, pre := fun _ => True, fn := fun _ => true }
def cUtfEncodes : Contract := lawC (.pair t22 .unit) (fun x => x.1.length ≤ maxLen)
def cUtfBack : Contract := lawC (.pair t22 .unit) (fun x => x.1.length ≤ maxLen)
def cUtfClean : Contract := lawC (.pair t9 .unit) (fun x => x.1.size ≤ maxLen)
def cUtfJoins : Contract := lawC (.pair t9 (.pair t9 .unit)) (fun x => x.1.size ≤ maxLen ∧ x.2.1.size ≤ maxLen)
def cUtfDecodes : Contract := lawC (.pair t9 .unit) (fun x => x.1.size ≤ maxLen)
def cUtfSteps : Contract := lawC (.pair t9 (.pair t3 .unit)) (fun x => x.1.size ≤ maxLen)
end Go.Fr.C01
