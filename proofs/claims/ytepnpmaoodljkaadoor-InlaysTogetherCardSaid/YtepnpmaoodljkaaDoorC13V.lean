/-
  Conditions to be proved, function by function, printed by a program. Conditions: none.
-/
import Derived.Test.YtepnpmaoodljkaaDoorC13A
namespace Go.Fr.C13
open Go Go.Fr Go.Proofs
set_option maxRecDepth 100000

/- fn 8 -/
def hs8 : List (Nat × Nat × Hint) := [(0, 4, ⟨[.slot 10 t3], [8, 9], [], []⟩)]
def nm8 : List Nat := [3000000025]
noncomputable def E8 : Env := env tab [] [] gl hs8 nm8
def vc8 : Prop :=
 ∀ (x : List Inl × Unit),
 List.length x.fst ≤ maxLen →
 (decide ((↑(List.length x.fst) : Int) > (100 : Int)) = true → true = longI x.fst) ∧
 (decide ((↑(List.length x.fst) : Int) > (100 : Int)) = false →
 ((0 : Int) = (0 : Int) ∧ x.fst = x.fst ∧ (↑(List.length x.fst) : Int) = (↑(List.length x.fst) : Int)) ∧
 ∃ (Z : Int × Unit → Prop),
 ∃ (μ : Int × Unit → Nat),
 Z ((0 : Int), ()) ∧
 ∀ (a : Int),
 Z (a, ()) →
 (decide (a < (↑(List.length x.fst) : Int)) = true →
 ((0 : Int) ≤ a ∧ a < (↑(List.length x.fst) : Int)) ∧
 (decide
 ((↑(ByteArray.size
 (List.getD x.fst (Int.toNat a) (Ty.dflt t42)).snd.snd.snd.snd.fst) :
 Int) >
 (400 : Int)) =
 true →
 true = longI x.fst) ∧
 (decide
 ((↑(ByteArray.size
 (List.getD x.fst (Int.toNat a) (Ty.dflt t42)).snd.snd.snd.snd.fst) :
 Int) >
 (400 : Int)) =
 false →
 (IntKind.wrap IntKind.i64 (a + (1 : Int)) = IntKind.wrap IntKind.i64 (a + (1 : Int)) ∧
 x.fst = x.fst ∧ (↑(List.length x.fst) : Int) = (↑(List.length x.fst) : Int)) ∧
 Z (IntKind.wrap IntKind.i64 (a + (1 : Int)), ()) ∧
 μ (IntKind.wrap IntKind.i64 (a + (1 : Int)), ()) < μ (a, ()))) ∧
 (decide (a < (↑(List.length x.fst) : Int)) = false → false = longI x.fst))
theorem vcEq8 : fnVC E8 Tryd.f8 (bodyOf Tryd.f8) cLong = vc8 := by kernel_rfl
/- fn 9 -/
def hs9 : List (Nat × Nat × Hint) := []
def nm9 : List Nat := [3000000025]
noncomputable def E9 : Env := env tab [(10, cNew), (18, cAll), (22, cLen), (14, cBetween)] [] gl hs9 nm9
def vc9 : Prop :=
 ∀ (x : Unit),
 True →
 (List.length
 [((2 : Int), (3 : Int), (0 : Int), (5 : Int), (ByteArray.mk #[(98 : UInt8)]), ()),
 ((1 : Int), (3 : Int), (0 : Int), (5 : Int), (ByteArray.mk #[(97 : UInt8)]), ()),
 ((3 : Int), (3 : Int), (0 : Int), (4 : Int), (ByteArray.mk #[(99 : UInt8)]), ())] ≤
 maxLen ∧
 shortL
 [((2 : Int), (3 : Int), (0 : Int), (5 : Int), (ByteArray.mk #[(98 : UInt8)]), ()),
 ((1 : Int), (3 : Int), (0 : Int), (5 : Int), (ByteArray.mk #[(97 : UInt8)]), ()),
 ((3 : Int), (3 : Int), (0 : Int), (4 : Int), (ByteArray.mk #[(99 : UInt8)]), ())]) ∧
 List.length
 (allI
 (newI (5 : Int)
 [((2 : Int), (3 : Int), (0 : Int), (5 : Int), (ByteArray.mk #[(98 : UInt8)]), ()),
 ((1 : Int), (3 : Int), (0 : Int), (5 : Int), (ByteArray.mk #[(97 : UInt8)]), ()),
 ((3 : Int), (3 : Int), (0 : Int), (4 : Int), (ByteArray.mk #[(99 : UInt8)]), ())]).fst) ≤
 (10000 : Nat) ∧
 (((newI (5 : Int)
 [((2 : Int), (3 : Int), (0 : Int), (5 : Int), (ByteArray.mk #[(98 : UInt8)]), ()),
 ((1 : Int), (3 : Int), (0 : Int), (5 : Int), (ByteArray.mk #[(97 : UInt8)]), ()),
 ((3 : Int), (3 : Int), (0 : Int), (4 : Int), (ByteArray.mk #[(99 : UInt8)]), ())]).snd.fst ==
 (0 : Int)) =
 true →
 (((↑(List.length
 (allI
 (newI (5 : Int)
 [((2 : Int), (3 : Int), (0 : Int), (5 : Int), (ByteArray.mk #[(98 : UInt8)]), ()),
 ((1 : Int), (3 : Int), (0 : Int), (5 : Int), (ByteArray.mk #[(97 : UInt8)]), ()),
 ((3 : Int), (3 : Int), (0 : Int), (4 : Int), (ByteArray.mk #[(99 : UInt8)]),
 ())]).fst)) :
 Int) ==
 (3 : Int)) =
 true →
 ((0 : Int) ≤ (0 : Int) ∧
 (0 : Int) <
 (↑(List.length
 (allI
 (newI (5 : Int)
 [((2 : Int), (3 : Int), (0 : Int), (5 : Int), (ByteArray.mk #[(98 : UInt8)]), ()),
 ((1 : Int), (3 : Int), (0 : Int), (5 : Int), (ByteArray.mk #[(97 : UInt8)]), ()),
 ((3 : Int), (3 : Int), (0 : Int), (4 : Int), (ByteArray.mk #[(99 : UInt8)]),
 ())]).fst)) :
 Int)) ∧
 (((List.getD
 (allI
 (newI (5 : Int)
 [((2 : Int), (3 : Int), (0 : Int), (5 : Int), (ByteArray.mk #[(98 : UInt8)]), ()),
 ((1 : Int), (3 : Int), (0 : Int), (5 : Int), (ByteArray.mk #[(97 : UInt8)]), ()),
 ((3 : Int), (3 : Int), (0 : Int), (4 : Int), (ByteArray.mk #[(99 : UInt8)]),
 ())]).fst)
 (Int.toNat (0 : Int)) (Ty.dflt t42)).fst ==
 (3 : Int)) =
 true →
 ((0 : Int) ≤ (1 : Int) ∧
 (1 : Int) <
 (↑(List.length
 (allI
 (newI (5 : Int)
 [((2 : Int), (3 : Int), (0 : Int), (5 : Int), (ByteArray.mk #[(98 : UInt8)]), ()),
 ((1 : Int), (3 : Int), (0 : Int), (5 : Int), (ByteArray.mk #[(97 : UInt8)]), ()),
 ((3 : Int), (3 : Int), (0 : Int), (4 : Int), (ByteArray.mk #[(99 : UInt8)]),
 ())]).fst)) :
 Int)) ∧
 (((List.getD
 (allI
 (newI (5 : Int)
 [((2 : Int), (3 : Int), (0 : Int), (5 : Int), (ByteArray.mk #[(98 : UInt8)]),
 ()),
 ((1 : Int), (3 : Int), (0 : Int), (5 : Int), (ByteArray.mk #[(97 : UInt8)]),
 ()),
 ((3 : Int), (3 : Int), (0 : Int), (4 : Int), (ByteArray.mk #[(99 : UInt8)]),
 ())]).fst)
 (Int.toNat (1 : Int)) (Ty.dflt t42)).fst ==
 (1 : Int)) =
 true →
 ((0 : Int) ≤ (2 : Int) ∧
 (2 : Int) <
 (↑(List.length
 (allI
 (newI (5 : Int)
 [((2 : Int), (3 : Int), (0 : Int), (5 : Int), (ByteArray.mk #[(98 : UInt8)]),
 ()),
 ((1 : Int), (3 : Int), (0 : Int), (5 : Int),
 (ByteArray.mk #[(97 : UInt8)]), ()),
 ((3 : Int), (3 : Int), (0 : Int), (4 : Int),
 (ByteArray.mk #[(99 : UInt8)]), ())]).fst)) :
 Int)) ∧
 (((List.getD
 (allI
 (newI (5 : Int)
 [((2 : Int), (3 : Int), (0 : Int), (5 : Int),
 (ByteArray.mk #[(98 : UInt8)]), ()),
 ((1 : Int), (3 : Int), (0 : Int), (5 : Int),
 (ByteArray.mk #[(97 : UInt8)]), ()),
 ((3 : Int), (3 : Int), (0 : Int), (4 : Int),
 (ByteArray.mk #[(99 : UInt8)]), ())]).fst)
 (Int.toNat (2 : Int)) (Ty.dflt t42)).fst ==
 (2 : Int)) =
 true →
 True ∧
 ((lenI
 (newI (5 : Int)
 [((2 : Int), (3 : Int), (0 : Int), (5 : Int),
 (ByteArray.mk #[(98 : UInt8)]), ()),
 ((1 : Int), (3 : Int), (0 : Int), (5 : Int),
 (ByteArray.mk #[(97 : UInt8)]), ()),
 ((3 : Int), (3 : Int), (0 : Int), (4 : Int),
 (ByteArray.mk #[(99 : UInt8)]), ())]).fst ==
 (5 : Int)) =
 true →
 List.length
 (allI
 (newI (5 : Int)
 [((2 : Int), (3 : Int), (0 : Int), (5 : Int),
 (ByteArray.mk #[(98 : UInt8)]), ()),
 ((1 : Int), (3 : Int), (0 : Int), (5 : Int),
 (ByteArray.mk #[(97 : UInt8)]), ()),
 ((3 : Int), (3 : Int), (0 : Int), (4 : Int),
 (ByteArray.mk #[(99 : UInt8)]), ())]).fst) ≤
 (10000 : Nat) ∧
 ((↑(List.length
 (List.filter (inI (4 : Int) (9 : Int))
 (allI
 (newI (5 : Int)
 [((2 : Int), (3 : Int), (0 : Int), (5 : Int),
 (ByteArray.mk #[(98 : UInt8)]), ()),
 ((1 : Int), (3 : Int), (0 : Int), (5 : Int),
 (ByteArray.mk #[(97 : UInt8)]), ()),
 ((3 : Int), (3 : Int), (0 : Int), (4 : Int),
 (ByteArray.mk #[(99 : UInt8)]), ())]).fst))) :
 Int) ==
 (0 : Int)) =
 true) ∧
 ((lenI
 (newI (5 : Int)
 [((2 : Int), (3 : Int), (0 : Int), (5 : Int),
 (ByteArray.mk #[(98 : UInt8)]), ()),
 ((1 : Int), (3 : Int), (0 : Int), (5 : Int),
 (ByteArray.mk #[(97 : UInt8)]), ()),
 ((3 : Int), (3 : Int), (0 : Int), (4 : Int),
 (ByteArray.mk #[(99 : UInt8)]), ())]).fst ==
 (5 : Int)) =
 false →
 false = true)) ∧
 (((List.getD
 (allI
 (newI (5 : Int)
 [((2 : Int), (3 : Int), (0 : Int), (5 : Int),
 (ByteArray.mk #[(98 : UInt8)]), ()),
 ((1 : Int), (3 : Int), (0 : Int), (5 : Int),
 (ByteArray.mk #[(97 : UInt8)]), ()),
 ((3 : Int), (3 : Int), (0 : Int), (4 : Int),
 (ByteArray.mk #[(99 : UInt8)]), ())]).fst)
 (Int.toNat (2 : Int)) (Ty.dflt t42)).fst ==
 (2 : Int)) =
 false →
 false = true)) ∧
 (((List.getD
 (allI
 (newI (5 : Int)
 [((2 : Int), (3 : Int), (0 : Int), (5 : Int), (ByteArray.mk #[(98 : UInt8)]),
 ()),
 ((1 : Int), (3 : Int), (0 : Int), (5 : Int), (ByteArray.mk #[(97 : UInt8)]),
 ()),
 ((3 : Int), (3 : Int), (0 : Int), (4 : Int), (ByteArray.mk #[(99 : UInt8)]),
 ())]).fst)
 (Int.toNat (1 : Int)) (Ty.dflt t42)).fst ==
 (1 : Int)) =
 false →
 false = true)) ∧
 (((List.getD
 (allI
 (newI (5 : Int)
 [((2 : Int), (3 : Int), (0 : Int), (5 : Int), (ByteArray.mk #[(98 : UInt8)]), ()),
 ((1 : Int), (3 : Int), (0 : Int), (5 : Int), (ByteArray.mk #[(97 : UInt8)]), ()),
 ((3 : Int), (3 : Int), (0 : Int), (4 : Int), (ByteArray.mk #[(99 : UInt8)]),
 ())]).fst)
 (Int.toNat (0 : Int)) (Ty.dflt t42)).fst ==
 (3 : Int)) =
 false →
 false = true)) ∧
 (((↑(List.length
 (allI
 (newI (5 : Int)
 [((2 : Int), (3 : Int), (0 : Int), (5 : Int), (ByteArray.mk #[(98 : UInt8)]), ()),
 ((1 : Int), (3 : Int), (0 : Int), (5 : Int), (ByteArray.mk #[(97 : UInt8)]), ()),
 ((3 : Int), (3 : Int), (0 : Int), (4 : Int), (ByteArray.mk #[(99 : UInt8)]),
 ())]).fst)) :
 Int) ==
 (3 : Int)) =
 false →
 false = true)) ∧
 (((newI (5 : Int)
 [((2 : Int), (3 : Int), (0 : Int), (5 : Int), (ByteArray.mk #[(98 : UInt8)]), ()),
 ((1 : Int), (3 : Int), (0 : Int), (5 : Int), (ByteArray.mk #[(97 : UInt8)]), ()),
 ((3 : Int), (3 : Int), (0 : Int), (4 : Int), (ByteArray.mk #[(99 : UInt8)]), ())]).snd.fst ==
 (0 : Int)) =
 false →
 false = true)
theorem vcEq9 : fnVC E9 Tryd.f9 (bodyOf Tryd.f9) cThree = vc9 := by kernel_rfl
/- fn 11 -/
def hs11 : List (Nat × Nat × Hint) := [(0, 7, ⟨[.rowS 5 900000005 t42 42, .slot 26 t3], [0, 1, 4, 24, 25], [4], []⟩),
  (0, 16, ⟨[.rowS 9 900000009 t42 42, .slot 10 t4, .slot 48 t3], [0, 1, 4, 7, 24, 25, 26, 46, 47], [4, 7], [900000005]⟩)]
def nm11 : List Nat := [3000000025]
noncomputable def E11 : Env := env tab [(27, cRefWrong), (29, cRDecode), (28, cREncode), (30, cAhead)] [] gl hs11 nm11
def vc11 : Prop :=
 ∀ (x : Int × List Inl × Unit),
 List.length x.snd.fst ≤ maxLen ∧ shortL x.snd.fst →
 (decide (x.fst < (0 : Int)) = true → ((0 : Int), [], (1 : Int), ()) = newW x.fst x.snd.fst) ∧
 (decide (x.fst < (0 : Int)) = false →
 (decide (x.fst > (1099511627776 : Int)) = true → ((0 : Int), [], (1 : Int), ()) = newW x.fst x.snd.fst) ∧
 (decide (x.fst > (1099511627776 : Int)) = false →
 (decide ((↑(List.length x.snd.fst) : Int) > (60 : Int)) = true →
 ((0 : Int), [], (5 : Int), ()) = newW x.fst x.snd.fst) ∧
 (decide ((↑(List.length x.snd.fst) : Int) > (60 : Int)) = false →
 (((0 : Int) = (0 : Int) ∧
 True ∧
 x.fst = x.fst ∧
 x.snd.fst = x.snd.fst ∧
 True ∧
 x.snd.fst = x.snd.fst ∧
 (↑(List.length x.snd.fst) : Int) = (↑(List.length x.snd.fst) : Int)) ∧
 ((0 : Int) = (0 : Int) ∧
 Value.slice none (0 : Nat) (0 : Nat) = Value.slice none (0 : Nat) (0 : Nat) ∧
 (0 : Int) = (0 : Int)) ∧
 True ∧ True) ∧
 ∃ (Z : List Inl × Int × Unit → Prop),
 ∃ (μ : List Inl × Int × Unit → Nat),
 Z ([], (0 : Int), ()) ∧
 ∀ (a : List Inl) (a_1 : Int),
 Z (a, a_1, ()) →
 (decide (a_1 < (↑(List.length x.snd.fst) : Int)) = true →
 ((0 : Int) ≤ a_1 ∧ a_1 < (↑(List.length x.snd.fst) : Int)) ∧
 ((0 : Int) ≤ a_1 ∧ a_1 ≤ (↑(List.length x.snd.fst) : Int)) ∧
 (List.length (List.take (Int.toNat a_1) x.snd.fst) ≤ maxLen ∧
 ByteArray.size (txt (List.getD x.snd.fst (Int.toNat a_1) (Ty.dflt t42))) ≤
 (1000000000 : Nat)) ∧
 ((wrongW x.fst (List.take (Int.toNat a_1) x.snd.fst)
 (List.getD x.snd.fst (Int.toNat a_1) (Ty.dflt t42)) !=
 (0 : Int)) =
 true →
 ((0 : Int), [],
 wrongW x.fst (List.take (Int.toNat a_1) x.snd.fst)
 (List.getD x.snd.fst (Int.toNat a_1) (Ty.dflt t42)),
 ()) =
 newW x.fst x.snd.fst) ∧
 ((wrongW x.fst (List.take (Int.toNat a_1) x.snd.fst)
 (List.getD x.snd.fst (Int.toNat a_1) (Ty.dflt t42)) !=
 (0 : Int)) =
 false →
 ByteArray.size
 (List.getD x.snd.fst (Int.toNat a_1)
 (Ty.dflt t42)).snd.snd.snd.snd.fst ≤
 (1000000000 : Nat) ∧
 List.length
 (decodeL
 (List.getD x.snd.fst (Int.toNat a_1)
 (Ty.dflt t42)).snd.snd.snd.snd.fst) ≤
 (1000000000 : Nat) ∧
 (((0 : Int) = (0 : Int) ∧
 false = false ∧
 True ∧
 x.fst = x.fst ∧
 x.snd.fst = x.snd.fst ∧
 True ∧
 True ∧
 x.snd.fst = x.snd.fst ∧
 (↑(List.length x.snd.fst) : Int) =
 (↑(List.length x.snd.fst) : Int) ∧
 a_1 = a_1 ∧
 True ∧
 (↑(List.length a) : Int) =
 (↑(List.length a) : Int)) ∧
 (((0 : Int) = (0 : Int) ∧
 Value.slice none (0 : Nat) (0 : Nat) =
 Value.slice none (0 : Nat) (0 : Nat) ∧
 (0 : Int) = (0 : Int)) ∧
 (List.getD x.snd.fst (Int.toNat a_1) (Ty.dflt t42)).fst =
 (List.getD x.snd.fst (Int.toNat a_1) (Ty.dflt t42)).fst ∧
 (List.getD x.snd.fst (Int.toNat a_1) (Ty.dflt t42)).snd.fst =
 (List.getD x.snd.fst (Int.toNat a_1)
 (Ty.dflt t42)).snd.fst ∧
 (List.getD x.snd.fst (Int.toNat a_1)
 (Ty.dflt t42)).snd.snd.fst =
 (List.getD x.snd.fst (Int.toNat a_1)
 (Ty.dflt t42)).snd.snd.fst ∧
 (List.getD x.snd.fst (Int.toNat a_1)
 (Ty.dflt t42)).snd.snd.snd.fst =
 (List.getD x.snd.fst (Int.toNat a_1)
 (Ty.dflt t42)).snd.snd.snd.fst ∧
 encode
 (decodeL
 (List.getD x.snd.fst (Int.toNat a_1)
 (Ty.dflt t42)).snd.snd.snd.snd.fst) =
 encode
 (decodeL
 (List.getD x.snd.fst (Int.toNat a_1)
 (Ty.dflt t42)).snd.snd.snd.snd.fst)) ∧
 True ∧ a = a ∧ True) ∧
 ∃ (Z_1 :
 List Inl × Bool × Int × Unit →
 Prop),
 ∃ (μ_1 :
 List Inl ×
 Bool × Int × Unit →
 Nat),
 Z_1 ([], false, (0 : Int), ()) ∧
 ∀ (a_5 : List Inl)
 (a_6 : Bool) (a_7 : Int),
 Z_1 (a_5, a_6, a_7, ()) →
 (decide (a_7 < (↑(List.length a) : Int)) = true →
 ((0 : Int) ≤ a_7 ∧ a_7 < (↑(List.length a) : Int)) ∧
 ((!a_6) = true →
 True ∧
 (aheadI
 ((List.getD x.snd.fst (Int.toNat a_1)
 (Ty.dflt t42)).fst,
 (List.getD x.snd.fst (Int.toNat a_1)
 (Ty.dflt t42)).snd.fst,
 (List.getD x.snd.fst (Int.toNat a_1)
 (Ty.dflt t42)).snd.snd.fst,
 (List.getD x.snd.fst (Int.toNat a_1)
 (Ty.dflt
 t42)).snd.snd.snd.fst,
 encode
 (decodeL
 (List.getD x.snd.fst (Int.toNat a_1)
 (Ty.dflt
 t42)).snd.snd.snd.snd.fst),
 ())
 (List.getD a (Int.toNat a_7)
 (Ty.dflt t42)) =
 true →
 (List.length a_5 +
 List.length
 [((List.getD x.snd.fst
 (Int.toNat a_1)
 (Ty.dflt t42)).fst,
 (List.getD x.snd.fst
 (Int.toNat a_1)
 (Ty.dflt t42)).snd.fst,
 (List.getD x.snd.fst
 (Int.toNat a_1)
 (Ty.dflt
 t42)).snd.snd.fst,
 (List.getD x.snd.fst
 (Int.toNat a_1)
 (Ty.dflt
 t42)).snd.snd.snd.fst,
 encode
 (decodeL
 (List.getD x.snd.fst
 (Int.toNat a_1)
 (Ty.dflt
 t42)).snd.snd.snd.snd.fst),
 ())]) *
 (48 : Nat) ≤
 (140737488355328 : Nat) ∧
 List.length a_5 +
 List.length
 [((List.getD x.snd.fst
 (Int.toNat a_1)
 (Ty.dflt t42)).fst,
 (List.getD x.snd.fst
 (Int.toNat a_1)
 (Ty.dflt t42)).snd.fst,
 (List.getD x.snd.fst
 (Int.toNat a_1)
 (Ty.dflt
 t42)).snd.snd.fst,
 (List.getD x.snd.fst
 (Int.toNat a_1)
 (Ty.dflt
 t42)).snd.snd.snd.fst,
 encode
 (decodeL
 (List.getD x.snd.fst
 (Int.toNat a_1)
 (Ty.dflt
 t42)).snd.snd.snd.snd.fst),
 ())] ≤
 maxLen ∧
 (List.length
 (a_5 ++
 [((List.getD x.snd.fst
 (Int.toNat a_1)
 (Ty.dflt t42)).fst,
 (List.getD x.snd.fst
 (Int.toNat a_1)
 (Ty.dflt
 t42)).snd.fst,
 (List.getD x.snd.fst
 (Int.toNat a_1)
 (Ty.dflt
 t42)).snd.snd.fst,
 (List.getD x.snd.fst
 (Int.toNat a_1)
 (Ty.dflt
 t42)).snd.snd.snd.fst,
 encode
 (decodeL
 (List.getD x.snd.fst
 (Int.toNat
 a_1)
 (Ty.dflt
 t42)).snd.snd.snd.snd.fst),
 ())]) +
 List.length
 [List.getD a (Int.toNat a_7)
 (Ty.dflt t42)]) *
 (48 : Nat) ≤
 (140737488355328 : Nat) ∧
 List.length
 (a_5 ++
 [((List.getD x.snd.fst
 (Int.toNat a_1)
 (Ty.dflt t42)).fst,
 (List.getD x.snd.fst
 (Int.toNat a_1)
 (Ty.dflt
 t42)).snd.fst,
 (List.getD x.snd.fst
 (Int.toNat a_1)
 (Ty.dflt
 t42)).snd.snd.fst,
 (List.getD x.snd.fst
 (Int.toNat a_1)
 (Ty.dflt
 t42)).snd.snd.snd.fst,
 encode
 (decodeL
 (List.getD x.snd.fst
 (Int.toNat
 a_1)
 (Ty.dflt
 t42)).snd.snd.snd.snd.fst),
 ())]) +
 List.length
 [List.getD a (Int.toNat a_7)
 (Ty.dflt t42)] ≤
 maxLen ∧
 ((IntKind.wrap IntKind.i64
 (a_7 + (1 : Int)) =
 IntKind.wrap IntKind.i64
 (a_7 + (1 : Int)) ∧
 true = true ∧
 True ∧
 x.fst = x.fst ∧
 x.snd.fst = x.snd.fst ∧
 True ∧
 True ∧
 x.snd.fst =
 x.snd.fst ∧
 (↑(List.length
 x.snd.fst) :
 Int) =
 (↑(List.length
 x.snd.fst) :
 Int) ∧
 a_1 = a_1 ∧
 True ∧
 (↑(List.length
 a) :
 Int) =
 (↑(List.length
 a) :
 Int)) ∧
 (((0 : Int) = (0 : Int) ∧
 Value.slice none (0 : Nat)
 (0 : Nat) =
 Value.slice none
 (0 : Nat) (0 : Nat) ∧
 (0 : Int) = (0 : Int)) ∧
 (List.getD x.snd.fst
 (Int.toNat a_1)
 (Ty.dflt t42)).fst =
 (List.getD x.snd.fst
 (Int.toNat a_1)
 (Ty.dflt t42)).fst ∧
 (List.getD x.snd.fst
 (Int.toNat a_1)
 (Ty.dflt
 t42)).snd.fst =
 (List.getD x.snd.fst
 (Int.toNat a_1)
 (Ty.dflt
 t42)).snd.fst ∧
 (List.getD x.snd.fst
 (Int.toNat
 a_1)
 (Ty.dflt
 t42)).snd.snd.fst =
 (List.getD x.snd.fst
 (Int.toNat
 a_1)
 (Ty.dflt
 t42)).snd.snd.fst ∧
 (List.getD x.snd.fst
 (Int.toNat
 a_1)
 (Ty.dflt
 t42)).snd.snd.snd.fst =
 (List.getD x.snd.fst
 (Int.toNat
 a_1)
 (Ty.dflt
 t42)).snd.snd.snd.fst ∧
 encode
 (decodeL
 (List.getD
 x.snd.fst
 (Int.toNat
 a_1)
 (Ty.dflt
 t42)).snd.snd.snd.snd.fst) =
 encode
 (decodeL
 (List.getD
 x.snd.fst
 (Int.toNat
 a_1)
 (Ty.dflt
 t42)).snd.snd.snd.snd.fst)) ∧
 a_5 ++
 [((List.getD x.snd.fst
 (Int.toNat a_1)
 (Ty.dflt
 t42)).fst,
 (List.getD x.snd.fst
 (Int.toNat
 a_1)
 (Ty.dflt
 t42)).snd.fst,
 (List.getD x.snd.fst
 (Int.toNat
 a_1)
 (Ty.dflt
 t42)).snd.snd.fst,
 (List.getD x.snd.fst
 (Int.toNat
 a_1)
 (Ty.dflt
 t42)).snd.snd.snd.fst,
 encode
 (decodeL
 (List.getD
 x.snd.fst
 (Int.toNat
 a_1)
 (Ty.dflt
 t42)).snd.snd.snd.snd.fst),
 ())] ++
 [List.getD a
 (Int.toNat a_7)
 (Ty.dflt t42)] =
 a_5 ++
 [((List.getD x.snd.fst
 (Int.toNat a_1)
 (Ty.dflt
 t42)).fst,
 (List.getD x.snd.fst
 (Int.toNat
 a_1)
 (Ty.dflt
 t42)).snd.fst,
 (List.getD x.snd.fst
 (Int.toNat
 a_1)
 (Ty.dflt
 t42)).snd.snd.fst,
 (List.getD x.snd.fst
 (Int.toNat
 a_1)
 (Ty.dflt
 t42)).snd.snd.snd.fst,
 encode
 (decodeL
 (List.getD
 x.snd.fst
 (Int.toNat
 a_1)
 (Ty.dflt
 t42)).snd.snd.snd.snd.fst),
 ())] ++
 [List.getD a
 (Int.toNat a_7)
 (Ty.dflt t42)] ∧
 a = a ∧ True) ∧
 Z_1
 (a_5 ++
 [((List.getD x.snd.fst
 (Int.toNat a_1)
 (Ty.dflt
 t42)).fst,
 (List.getD x.snd.fst
 (Int.toNat a_1)
 (Ty.dflt
 t42)).snd.fst,
 (List.getD x.snd.fst
 (Int.toNat
 a_1)
 (Ty.dflt
 t42)).snd.snd.fst,
 (List.getD x.snd.fst
 (Int.toNat
 a_1)
 (Ty.dflt
 t42)).snd.snd.snd.fst,
 encode
 (decodeL
 (List.getD
 x.snd.fst
 (Int.toNat
 a_1)
 (Ty.dflt
 t42)).snd.snd.snd.snd.fst),
 ())] ++
 [List.getD a (Int.toNat a_7)
 (Ty.dflt t42)],
 true,
 IntKind.wrap IntKind.i64
 (a_7 + (1 : Int)),
 ()) ∧
 μ_1
 (a_5 ++
 [((List.getD x.snd.fst
 (Int.toNat a_1)
 (Ty.dflt
 t42)).fst,
 (List.getD x.snd.fst
 (Int.toNat
 a_1)
 (Ty.dflt
 t42)).snd.fst,
 (List.getD x.snd.fst
 (Int.toNat
 a_1)
 (Ty.dflt
 t42)).snd.snd.fst,
 (List.getD x.snd.fst
 (Int.toNat
 a_1)
 (Ty.dflt
 t42)).snd.snd.snd.fst,
 encode
 (decodeL
 (List.getD
 x.snd.fst
 (Int.toNat
 a_1)
 (Ty.dflt
 t42)).snd.snd.snd.snd.fst),
 ())] ++
 [List.getD a
 (Int.toNat a_7)
 (Ty.dflt t42)],
 true,
 IntKind.wrap IntKind.i64
 (a_7 + (1 : Int)),
 ()) <
 μ_1 (a_5, a_6, a_7, ())) ∧
 (aheadI
 ((List.getD x.snd.fst (Int.toNat a_1)
 (Ty.dflt t42)).fst,
 (List.getD x.snd.fst (Int.toNat a_1)
 (Ty.dflt t42)).snd.fst,
 (List.getD x.snd.fst (Int.toNat a_1)
 (Ty.dflt t42)).snd.snd.fst,
 (List.getD x.snd.fst (Int.toNat a_1)
 (Ty.dflt
 t42)).snd.snd.snd.fst,
 encode
 (decodeL
 (List.getD x.snd.fst (Int.toNat a_1)
 (Ty.dflt
 t42)).snd.snd.snd.snd.fst),
 ())
 (List.getD a (Int.toNat a_7)
 (Ty.dflt t42)) =
 false →
 (List.length a_5 +
 List.length
 [List.getD a (Int.toNat a_7)
 (Ty.dflt t42)]) *
 (48 : Nat) ≤
 (140737488355328 : Nat) ∧
 List.length a_5 +
 List.length
 [List.getD a (Int.toNat a_7)
 (Ty.dflt t42)] ≤
 maxLen ∧
 ((IntKind.wrap IntKind.i64
 (a_7 + (1 : Int)) =
 IntKind.wrap IntKind.i64
 (a_7 + (1 : Int)) ∧
 a_6 = a_6 ∧
 True ∧
 x.fst = x.fst ∧
 x.snd.fst = x.snd.fst ∧
 True ∧
 True ∧
 x.snd.fst = x.snd.fst ∧
 (↑(List.length
 x.snd.fst) :
 Int) =
 (↑(List.length
 x.snd.fst) :
 Int) ∧
 a_1 = a_1 ∧
 True ∧
 (↑(List.length
 a) :
 Int) =
 (↑(List.length
 a) :
 Int)) ∧
 (((0 : Int) = (0 : Int) ∧
 Value.slice none (0 : Nat)
 (0 : Nat) =
 Value.slice none (0 : Nat)
 (0 : Nat) ∧
 (0 : Int) = (0 : Int)) ∧
 (List.getD x.snd.fst
 (Int.toNat a_1)
 (Ty.dflt t42)).fst =
 (List.getD x.snd.fst
 (Int.toNat a_1)
 (Ty.dflt t42)).fst ∧
 (List.getD x.snd.fst
 (Int.toNat a_1)
 (Ty.dflt
 t42)).snd.fst =
 (List.getD x.snd.fst
 (Int.toNat a_1)
 (Ty.dflt
 t42)).snd.fst ∧
 (List.getD x.snd.fst
 (Int.toNat a_1)
 (Ty.dflt
 t42)).snd.snd.fst =
 (List.getD x.snd.fst
 (Int.toNat a_1)
 (Ty.dflt
 t42)).snd.snd.fst ∧
 (List.getD x.snd.fst
 (Int.toNat
 a_1)
 (Ty.dflt
 t42)).snd.snd.snd.fst =
 (List.getD x.snd.fst
 (Int.toNat
 a_1)
 (Ty.dflt
 t42)).snd.snd.snd.fst ∧
 encode
 (decodeL
 (List.getD x.snd.fst
 (Int.toNat
 a_1)
 (Ty.dflt
 t42)).snd.snd.snd.snd.fst) =
 encode
 (decodeL
 (List.getD x.snd.fst
 (Int.toNat
 a_1)
 (Ty.dflt
 t42)).snd.snd.snd.snd.fst)) ∧
 a_5 ++
 [List.getD a (Int.toNat a_7)
 (Ty.dflt t42)] =
 a_5 ++
 [List.getD a (Int.toNat a_7)
 (Ty.dflt t42)] ∧
 a = a ∧ True) ∧
 Z_1
 (a_5 ++
 [List.getD a (Int.toNat a_7)
 (Ty.dflt t42)],
 a_6,
 IntKind.wrap IntKind.i64
 (a_7 + (1 : Int)),
 ()) ∧
 μ_1
 (a_5 ++
 [List.getD a (Int.toNat a_7)
 (Ty.dflt t42)],
 a_6,
 IntKind.wrap IntKind.i64
 (a_7 + (1 : Int)),
 ()) <
 μ_1 (a_5, a_6, a_7, ()))) ∧
 ((!a_6) = false →
 (List.length a_5 +
 List.length
 [List.getD a (Int.toNat a_7)
 (Ty.dflt t42)]) *
 (48 : Nat) ≤
 (140737488355328 : Nat) ∧
 List.length a_5 +
 List.length
 [List.getD a (Int.toNat a_7)
 (Ty.dflt t42)] ≤
 maxLen ∧
 ((IntKind.wrap IntKind.i64 (a_7 + (1 : Int)) =
 IntKind.wrap IntKind.i64
 (a_7 + (1 : Int)) ∧
 a_6 = a_6 ∧
 True ∧
 x.fst = x.fst ∧
 x.snd.fst = x.snd.fst ∧
 True ∧
 True ∧
 x.snd.fst = x.snd.fst ∧
 (↑(List.length x.snd.fst) :
 Int) =
 (↑(List.length
 x.snd.fst) :
 Int) ∧
 a_1 = a_1 ∧
 True ∧
 (↑(List.length a) :
 Int) =
 (↑(List.length a) :
 Int)) ∧
 (((0 : Int) = (0 : Int) ∧
 Value.slice none (0 : Nat) (0 : Nat) =
 Value.slice none (0 : Nat)
 (0 : Nat) ∧
 (0 : Int) = (0 : Int)) ∧
 (List.getD x.snd.fst (Int.toNat a_1)
 (Ty.dflt t42)).fst =
 (List.getD x.snd.fst (Int.toNat a_1)
 (Ty.dflt t42)).fst ∧
 (List.getD x.snd.fst (Int.toNat a_1)
 (Ty.dflt t42)).snd.fst =
 (List.getD x.snd.fst
 (Int.toNat a_1)
 (Ty.dflt t42)).snd.fst ∧
 (List.getD x.snd.fst (Int.toNat a_1)
 (Ty.dflt
 t42)).snd.snd.fst =
 (List.getD x.snd.fst
 (Int.toNat a_1)
 (Ty.dflt
 t42)).snd.snd.fst ∧
 (List.getD x.snd.fst
 (Int.toNat a_1)
 (Ty.dflt
 t42)).snd.snd.snd.fst =
 (List.getD x.snd.fst
 (Int.toNat a_1)
 (Ty.dflt
 t42)).snd.snd.snd.fst ∧
 encode
 (decodeL
 (List.getD x.snd.fst
 (Int.toNat
 a_1)
 (Ty.dflt
 t42)).snd.snd.snd.snd.fst) =
 encode
 (decodeL
 (List.getD x.snd.fst
 (Int.toNat
 a_1)
 (Ty.dflt
 t42)).snd.snd.snd.snd.fst)) ∧
 a_5 ++
 [List.getD a (Int.toNat a_7)
 (Ty.dflt t42)] =
 a_5 ++
 [List.getD a (Int.toNat a_7)
 (Ty.dflt t42)] ∧
 a = a ∧ True) ∧
 Z_1
 (a_5 ++
 [List.getD a (Int.toNat a_7)
 (Ty.dflt t42)],
 a_6,
 IntKind.wrap IntKind.i64
 (a_7 + (1 : Int)),
 ()) ∧
 μ_1
 (a_5 ++
 [List.getD a (Int.toNat a_7)
 (Ty.dflt t42)],
 a_6,
 IntKind.wrap IntKind.i64
 (a_7 + (1 : Int)),
 ()) <
 μ_1 (a_5, a_6, a_7, ()))) ∧
 (decide (a_7 < (↑(List.length a) : Int)) = false →
 ((!a_6) = true →
 (List.length a_5 +
 List.length
 [((List.getD x.snd.fst (Int.toNat a_1)
 (Ty.dflt t42)).fst,
 (List.getD x.snd.fst (Int.toNat a_1)
 (Ty.dflt t42)).snd.fst,
 (List.getD x.snd.fst (Int.toNat a_1)
 (Ty.dflt t42)).snd.snd.fst,
 (List.getD x.snd.fst (Int.toNat a_1)
 (Ty.dflt
 t42)).snd.snd.snd.fst,
 encode
 (decodeL
 (List.getD x.snd.fst (Int.toNat a_1)
 (Ty.dflt
 t42)).snd.snd.snd.snd.fst),
 ())]) *
 (48 : Nat) ≤
 (140737488355328 : Nat) ∧
 List.length a_5 +
 List.length
 [((List.getD x.snd.fst (Int.toNat a_1)
 (Ty.dflt t42)).fst,
 (List.getD x.snd.fst (Int.toNat a_1)
 (Ty.dflt t42)).snd.fst,
 (List.getD x.snd.fst (Int.toNat a_1)
 (Ty.dflt t42)).snd.snd.fst,
 (List.getD x.snd.fst (Int.toNat a_1)
 (Ty.dflt
 t42)).snd.snd.snd.fst,
 encode
 (decodeL
 (List.getD x.snd.fst (Int.toNat a_1)
 (Ty.dflt
 t42)).snd.snd.snd.snd.fst),
 ())] ≤
 maxLen ∧
 ((IntKind.wrap IntKind.i64 (a_1 + (1 : Int)) =
 IntKind.wrap IntKind.i64
 (a_1 + (1 : Int)) ∧
 True ∧
 x.fst = x.fst ∧
 x.snd.fst = x.snd.fst ∧
 True ∧
 x.snd.fst = x.snd.fst ∧
 (↑(List.length x.snd.fst) : Int) =
 (↑(List.length x.snd.fst) :
 Int)) ∧
 ((0 : Int) = (0 : Int) ∧
 Value.slice none (0 : Nat) (0 : Nat) =
 Value.slice none (0 : Nat) (0 : Nat) ∧
 (0 : Int) = (0 : Int)) ∧
 a_5 ++
 [((List.getD x.snd.fst (Int.toNat a_1)
 (Ty.dflt t42)).fst,
 (List.getD x.snd.fst
 (Int.toNat a_1)
 (Ty.dflt t42)).snd.fst,
 (List.getD x.snd.fst
 (Int.toNat a_1)
 (Ty.dflt
 t42)).snd.snd.fst,
 (List.getD x.snd.fst
 (Int.toNat a_1)
 (Ty.dflt
 t42)).snd.snd.snd.fst,
 encode
 (decodeL
 (List.getD x.snd.fst
 (Int.toNat a_1)
 (Ty.dflt
 t42)).snd.snd.snd.snd.fst),
 ())] =
 a_5 ++
 [((List.getD x.snd.fst (Int.toNat a_1)
 (Ty.dflt t42)).fst,
 (List.getD x.snd.fst
 (Int.toNat a_1)
 (Ty.dflt t42)).snd.fst,
 (List.getD x.snd.fst
 (Int.toNat a_1)
 (Ty.dflt
 t42)).snd.snd.fst,
 (List.getD x.snd.fst
 (Int.toNat a_1)
 (Ty.dflt
 t42)).snd.snd.snd.fst,
 encode
 (decodeL
 (List.getD x.snd.fst
 (Int.toNat a_1)
 (Ty.dflt
 t42)).snd.snd.snd.snd.fst),
 ())] ∧
 True) ∧
 Z
 (a_5 ++
 [((List.getD x.snd.fst (Int.toNat a_1)
 (Ty.dflt t42)).fst,
 (List.getD x.snd.fst (Int.toNat a_1)
 (Ty.dflt t42)).snd.fst,
 (List.getD x.snd.fst (Int.toNat a_1)
 (Ty.dflt t42)).snd.snd.fst,
 (List.getD x.snd.fst (Int.toNat a_1)
 (Ty.dflt
 t42)).snd.snd.snd.fst,
 encode
 (decodeL
 (List.getD x.snd.fst
 (Int.toNat a_1)
 (Ty.dflt
 t42)).snd.snd.snd.snd.fst),
 ())],
 IntKind.wrap IntKind.i64
 (a_1 + (1 : Int)),
 ()) ∧
 μ
 (a_5 ++
 [((List.getD x.snd.fst (Int.toNat a_1)
 (Ty.dflt t42)).fst,
 (List.getD x.snd.fst
 (Int.toNat a_1)
 (Ty.dflt t42)).snd.fst,
 (List.getD x.snd.fst
 (Int.toNat a_1)
 (Ty.dflt
 t42)).snd.snd.fst,
 (List.getD x.snd.fst
 (Int.toNat a_1)
 (Ty.dflt
 t42)).snd.snd.snd.fst,
 encode
 (decodeL
 (List.getD x.snd.fst
 (Int.toNat a_1)
 (Ty.dflt
 t42)).snd.snd.snd.snd.fst),
 ())],
 IntKind.wrap IntKind.i64
 (a_1 + (1 : Int)),
 ()) <
 μ (a, a_1, ())) ∧
 ((!a_6) = false →
 ((IntKind.wrap IntKind.i64 (a_1 + (1 : Int)) =
 IntKind.wrap IntKind.i64 (a_1 + (1 : Int)) ∧
 True ∧
 x.fst = x.fst ∧
 x.snd.fst = x.snd.fst ∧
 True ∧
 x.snd.fst = x.snd.fst ∧
 (↑(List.length x.snd.fst) : Int) =
 (↑(List.length x.snd.fst) : Int)) ∧
 ((0 : Int) = (0 : Int) ∧
 Value.slice none (0 : Nat) (0 : Nat) =
 Value.slice none (0 : Nat) (0 : Nat) ∧
 (0 : Int) = (0 : Int)) ∧
 a_5 = a_5 ∧ True) ∧
 Z
 (a_5,
 IntKind.wrap IntKind.i64 (a_1 + (1 : Int)),
 ()) ∧
 μ
 (a_5,
 IntKind.wrap IntKind.i64 (a_1 + (1 : Int)),
 ()) <
 μ (a, a_1, ()))))) ∧
 (decide (a_1 < (↑(List.length x.snd.fst) : Int)) = false →
 (x.fst, a, (0 : Int), ()) = newW x.fst x.snd.fst))))
theorem vcEq11 : fnVC E11 Tryd.f11 (bodyOf Tryd.f11) cRefNew = vc11 := by kernel_rfl
/- fn 12 -/
def hs12 : List (Nat × Nat × Hint) := []
def nm12 : List Nat := [3000000025]
noncomputable def E12 : Env := env tab [(18, cAll), (13, cSame), (22, cLen)] [] gl hs12 nm12
def vc12 : Prop :=
 ∀
 (x :
 Option (Int × List Inl × Unit) ×
 Int × (Int × List Inl × Int × Unit) × Unit),
 List.length (allI x.fst) ≤ (10000 : Nat) ∧ List.length x.snd.snd.fst.snd.fst ≤ (10000 : Nat) →
 ((x.snd.fst != x.snd.snd.fst.snd.snd.fst) = true → false = isI x.fst x.snd.fst x.snd.snd.fst) ∧
 ((x.snd.fst != x.snd.snd.fst.snd.snd.fst) = false →
 ((!Ty.beq t4 (Option.isNone x.fst) (x.snd.snd.fst.snd.snd.fst != (0 : Int))) = true →
 false = isI x.fst x.snd.fst x.snd.snd.fst) ∧
 ((!Ty.beq t4 (Option.isNone x.fst) (x.snd.snd.fst.snd.snd.fst != (0 : Int))) = false →
 (Option.isNone x.fst = true → true = isI x.fst x.snd.fst x.snd.snd.fst) ∧
 (Option.isNone x.fst = false →
 List.length (allI x.fst) ≤ (10000 : Nat) ∧
 (List.length (allI x.fst) ≤ maxLen ∧ List.length x.snd.snd.fst.snd.fst ≤ maxLen) ∧
 (sameL (allI x.fst) x.snd.snd.fst.snd.fst = true →
 True ∧ (lenI x.fst == x.snd.snd.fst.fst) = isI x.fst x.snd.fst x.snd.snd.fst) ∧
 (sameL (allI x.fst) x.snd.snd.fst.snd.fst = false → false = isI x.fst x.snd.fst x.snd.snd.fst))))
theorem vcEq12 : fnVC E12 Tryd.f12 (bodyOf Tryd.f12) cIs = vc12 := by kernel_rfl
/- fn 13 -/
def hs13 : List (Nat × Nat × Hint) := [(0, 2, ⟨[.slot 8 t3], [0, 1, 7], [], []⟩)]
def nm13 : List Nat := [3000000025]
noncomputable def E13 : Env := env tab [] [] gl hs13 nm13
def vc13 : Prop :=
 ∀ (x : List Inl × List Inl × Unit),
 List.length x.fst ≤ maxLen ∧ List.length x.snd.fst ≤ maxLen →
 ((0 : Int) = (0 : Int) ∧
 x.fst = x.fst ∧ x.snd.fst = x.snd.fst ∧ (↑(List.length x.fst) : Int) = (↑(List.length x.fst) : Int)) ∧
 ∃ (Z : Int × Unit → Prop),
 ∃ (μ : Int × Unit → Nat),
 Z ((0 : Int), ()) ∧
 ∀ (a : Int),
 Z (a, ()) →
 (decide (a < (↑(List.length x.fst) : Int)) = true →
 (decide (a ≥ (↑(List.length x.snd.fst) : Int)) = true → false = sameL x.fst x.snd.fst) ∧
 (decide (a ≥ (↑(List.length x.snd.fst) : Int)) = false →
 ((0 : Int) ≤ a ∧ a < (↑(List.length x.fst) : Int)) ∧
 ((0 : Int) ≤ a ∧ a < (↑(List.length x.snd.fst) : Int)) ∧
 ((!Ty.beq t42 (List.getD x.fst (Int.toNat a) (Ty.dflt t42))
 (List.getD x.snd.fst (Int.toNat a) (Ty.dflt t42))) =
 true →
 false = sameL x.fst x.snd.fst) ∧
 ((!Ty.beq t42 (List.getD x.fst (Int.toNat a) (Ty.dflt t42))
 (List.getD x.snd.fst (Int.toNat a) (Ty.dflt t42))) =
 false →
 (IntKind.wrap IntKind.i64 (a + (1 : Int)) = IntKind.wrap IntKind.i64 (a + (1 : Int)) ∧
 x.fst = x.fst ∧
 x.snd.fst = x.snd.fst ∧
 (↑(List.length x.fst) : Int) = (↑(List.length x.fst) : Int)) ∧
 Z (IntKind.wrap IntKind.i64 (a + (1 : Int)), ()) ∧
 μ (IntKind.wrap IntKind.i64 (a + (1 : Int)), ()) < μ (a, ())))) ∧
 (decide (a < (↑(List.length x.fst) : Int)) = false →
 ((↑(List.length x.fst) : Int) == (↑(List.length x.snd.fst) : Int)) = sameL x.fst x.snd.fst)
theorem vcEq13 : fnVC E13 Tryd.f13 (bodyOf Tryd.f13) cSame = vc13 := by kernel_rfl
/- fn 15 -/
def hs15 : List (Nat × Nat × Hint) := [(0, 3, ⟨[.rowS 7 900000007 t42 42, .slot 13 t3], [1, 2, 11, 12], [], []⟩)]
def nm15 : List Nat := [3000000025]
noncomputable def E15 : Env := env tab [] [] gl hs15 nm15
def vc15 : Prop :=
 ∀ (x : (Int × List Inl × Int × Unit) × Int × Int × Unit),
 List.length x.fst.snd.fst ≤ (10000 : Nat) →
 (((0 : Int) = (0 : Int) ∧
 True ∧
 x.snd.fst = x.snd.fst ∧
 x.snd.snd.fst = x.snd.snd.fst ∧
 x.fst.snd.fst = x.fst.snd.fst ∧
 (↑(List.length x.fst.snd.fst) : Int) = (↑(List.length x.fst.snd.fst) : Int)) ∧
 True ∧ True) ∧
 ∃ (Z : List Inl × Int × Unit → Prop),
 ∃ (μ : List Inl × Int × Unit → Nat),
 Z ([], (0 : Int), ()) ∧
 ∀ (a : List Inl) (a_1 : Int),
 Z (a, a_1, ()) →
 (decide (a_1 < (↑(List.length x.fst.snd.fst) : Int)) = true →
 ((0 : Int) ≤ a_1 ∧ a_1 < (↑(List.length x.fst.snd.fst) : Int)) ∧
 (decide ((List.getD x.fst.snd.fst (Int.toNat a_1) (Ty.dflt t42)).snd.fst ≥ x.snd.fst) = true →
 (decide ((List.getD x.fst.snd.fst (Int.toNat a_1) (Ty.dflt t42)).snd.fst ≤ x.snd.snd.fst) =
 true →
 (List.length a + List.length [List.getD x.fst.snd.fst (Int.toNat a_1) (Ty.dflt t42)]) *
 (48 : Nat) ≤
 (140737488355328 : Nat) ∧
 List.length a + List.length [List.getD x.fst.snd.fst (Int.toNat a_1) (Ty.dflt t42)] ≤
 maxLen ∧
 ((IntKind.wrap IntKind.i64 (a_1 + (1 : Int)) =
 IntKind.wrap IntKind.i64 (a_1 + (1 : Int)) ∧
 True ∧
 x.snd.fst = x.snd.fst ∧
 x.snd.snd.fst = x.snd.snd.fst ∧
 x.fst.snd.fst = x.fst.snd.fst ∧
 (↑(List.length x.fst.snd.fst) : Int) =
 (↑(List.length x.fst.snd.fst) : Int)) ∧
 a ++ [List.getD x.fst.snd.fst (Int.toNat a_1) (Ty.dflt t42)] =
 a ++ [List.getD x.fst.snd.fst (Int.toNat a_1) (Ty.dflt t42)] ∧
 True) ∧
 Z
 (a ++ [List.getD x.fst.snd.fst (Int.toNat a_1) (Ty.dflt t42)],
 IntKind.wrap IntKind.i64 (a_1 + (1 : Int)), ()) ∧
 μ
 (a ++ [List.getD x.fst.snd.fst (Int.toNat a_1) (Ty.dflt t42)],
 IntKind.wrap IntKind.i64 (a_1 + (1 : Int)), ()) <
 μ (a, a_1, ())) ∧
 (decide ((List.getD x.fst.snd.fst (Int.toNat a_1) (Ty.dflt t42)).snd.fst ≤ x.snd.snd.fst) =
 false →
 ((IntKind.wrap IntKind.i64 (a_1 + (1 : Int)) =
 IntKind.wrap IntKind.i64 (a_1 + (1 : Int)) ∧
 True ∧
 x.snd.fst = x.snd.fst ∧
 x.snd.snd.fst = x.snd.snd.fst ∧
 x.fst.snd.fst = x.fst.snd.fst ∧
 (↑(List.length x.fst.snd.fst) : Int) =
 (↑(List.length x.fst.snd.fst) : Int)) ∧
 a = a ∧ True) ∧
 Z (a, IntKind.wrap IntKind.i64 (a_1 + (1 : Int)), ()) ∧
 μ (a, IntKind.wrap IntKind.i64 (a_1 + (1 : Int)), ()) < μ (a, a_1, ()))) ∧
 (decide ((List.getD x.fst.snd.fst (Int.toNat a_1) (Ty.dflt t42)).snd.fst ≥ x.snd.fst) = false →
 ((IntKind.wrap IntKind.i64 (a_1 + (1 : Int)) = IntKind.wrap IntKind.i64 (a_1 + (1 : Int)) ∧
 True ∧
 x.snd.fst = x.snd.fst ∧
 x.snd.snd.fst = x.snd.snd.fst ∧
 x.fst.snd.fst = x.fst.snd.fst ∧
 (↑(List.length x.fst.snd.fst) : Int) = (↑(List.length x.fst.snd.fst) : Int)) ∧
 a = a ∧ True) ∧
 Z (a, IntKind.wrap IntKind.i64 (a_1 + (1 : Int)), ()) ∧
 μ (a, IntKind.wrap IntKind.i64 (a_1 + (1 : Int)), ()) < μ (a, a_1, ()))) ∧
 (decide (a_1 < (↑(List.length x.fst.snd.fst) : Int)) = false →
 a = List.filter (inI x.snd.fst x.snd.snd.fst) x.fst.snd.fst)
theorem vcEq15 : fnVC E15 Tryd.f15 (bodyOf Tryd.f15) cRefBetween = vc15 := by kernel_rfl
/- fn 16 -/
def hs16 : List (Nat × Nat × Hint) := [(0, 3, ⟨[.slot 24 t3, .cell 20 0 (mapT t3 t42)], [0, 1, 2, 8, 22, 23], [20], []⟩),
  (0, 8, ⟨[.slot 35 t3, .cell 20 0 (mapT t3 t42)], [0, 2, 8, 33, 34], [20], []⟩),
  (0, 17, ⟨[.rowS 15 900000015 t42 42, .slot 53 t3], [0, 2, 8, 51, 52], [20], []⟩)]
def nm16 : List Nat := [3000000025]
noncomputable def E16 : Env := env tab [(18, cAll), (22, cLen), (10, cNew)] [] gl hs16 nm16
def vc16 : Prop :=
 ∀
 (x :
 Option (Int × List Inl × Unit) ×
 List Int × List Inl × Unit),
 okI x.fst ∧ List.length x.snd.fst ≤ (10000 : Nat) ∧ List.length x.snd.snd.fst ≤ (10000 : Nat) ∧ shortL x.snd.snd.fst →
 List.length (allI x.fst) ≤ (10000 : Nat) ∧
 (((0 : Int) = (0 : Int) ∧
 x.fst = x.fst ∧
 x.snd.fst = x.snd.fst ∧
 x.snd.snd.fst = x.snd.snd.fst ∧
 True ∧
 allI x.fst = allI x.fst ∧
 (↑(List.length (allI x.fst)) : Int) = (↑(List.length (allI x.fst)) : Int)) ∧
 ([] : List (Int × Inl × Unit)) = [] ∧ True) ∧
 ∃ (Z : Int × List (Int × Inl × Unit) × Unit → Prop),
 ∃ (μ : Int × List (Int × Inl × Unit) × Unit → Nat),
 Z ((0 : Int), [], ()) ∧
 ∀ (a : Int) (a_1 : List (Int × Inl × Unit)),
 Z (a, a_1, ()) →
 (decide (a < (↑(List.length (allI x.fst)) : Int)) = true →
 ((0 : Int) ≤ a ∧ a < (↑(List.length (allI x.fst)) : Int)) ∧
 mget t3 t42 (List.getD (allI x.fst) (Int.toNat a) (Ty.dflt t42)).fst a_1 = none ∧
 ((IntKind.wrap IntKind.i64 (a + (1 : Int)) = IntKind.wrap IntKind.i64 (a + (1 : Int)) ∧
 x.fst = x.fst ∧
 x.snd.fst = x.snd.fst ∧
 x.snd.snd.fst = x.snd.snd.fst ∧
 True ∧
 allI x.fst = allI x.fst ∧
 (↑(List.length (allI x.fst)) : Int) = (↑(List.length (allI x.fst)) : Int)) ∧
 a_1 ++
 [((List.getD (allI x.fst) (Int.toNat a) (Ty.dflt t42)).fst,
 List.getD (allI x.fst) (Int.toNat a) (Ty.dflt t42), ())] =
 a_1 ++
 [((List.getD (allI x.fst) (Int.toNat a) (Ty.dflt t42)).fst,
 List.getD (allI x.fst) (Int.toNat a) (Ty.dflt t42), ())] ∧
 True) ∧
 Z
 (IntKind.wrap IntKind.i64 (a + (1 : Int)),
 a_1 ++
 [((List.getD (allI x.fst) (Int.toNat a) (Ty.dflt t42)).fst,
 List.getD (allI x.fst) (Int.toNat a) (Ty.dflt t42), ())],
 ()) ∧
 μ
 (IntKind.wrap IntKind.i64 (a + (1 : Int)),
 a_1 ++
 [((List.getD (allI x.fst) (Int.toNat a) (Ty.dflt t42)).fst,
 List.getD (allI x.fst) (Int.toNat a) (Ty.dflt t42), ())],
 ()) <
 μ (a, a_1, ())) ∧
 (decide (a < (↑(List.length (allI x.fst)) : Int)) = false →
 (((0 : Int) = (0 : Int) ∧
 x.fst = x.fst ∧
 x.snd.snd.fst = x.snd.snd.fst ∧
 True ∧
 x.snd.fst = x.snd.fst ∧
 (↑(List.length x.snd.fst) : Int) = (↑(List.length x.snd.fst) : Int)) ∧
 a_1 = a_1 ∧ True) ∧
 ∃ (Z : Int × List (Int × Inl × Unit) × Unit → Prop),
 ∃ (μ : Int × List (Int × Inl × Unit) × Unit → Nat),
 Z ((0 : Int), a_1, ()) ∧
 ∀ (a : Int) (a_3 : List (Int × Inl × Unit)),
 Z (a, a_3, ()) →
 (decide (a < (↑(List.length x.snd.fst) : Int)) = true →
 ((0 : Int) ≤ a ∧ a < (↑(List.length x.snd.fst) : Int)) ∧
 ((!Option.isSome
 (mget t3 t42 (List.getD x.snd.fst (Int.toNat a) (Ty.dflt t3)) a_3)) =
 true →
 (none, (6 : Int), ()) = spliceI x.fst x.snd.fst x.snd.snd.fst) ∧
 ((!Option.isSome
 (mget t3 t42 (List.getD x.snd.fst (Int.toNat a) (Ty.dflt t3)) a_3)) =
 false →
 ((IntKind.wrap IntKind.i64 (a + (1 : Int)) =
 IntKind.wrap IntKind.i64 (a + (1 : Int)) ∧
 x.fst = x.fst ∧
 x.snd.snd.fst = x.snd.snd.fst ∧
 True ∧
 x.snd.fst = x.snd.fst ∧
 (↑(List.length x.snd.fst) : Int) =
 (↑(List.length x.snd.fst) : Int)) ∧
 mdel t3 t42 (List.getD x.snd.fst (Int.toNat a) (Ty.dflt t3)) a_3 =
 mdel t3 t42 (List.getD x.snd.fst (Int.toNat a) (Ty.dflt t3)) a_3 ∧
 True) ∧
 Z
 (IntKind.wrap IntKind.i64 (a + (1 : Int)),
 mdel t3 t42 (List.getD x.snd.fst (Int.toNat a) (Ty.dflt t3)) a_3,
 ()) ∧
 μ
 (IntKind.wrap IntKind.i64 (a + (1 : Int)),
 mdel t3 t42 (List.getD x.snd.fst (Int.toNat a) (Ty.dflt t3)) a_3,
 ()) <
 μ (a, a_3, ()))) ∧
 (decide (a < (↑(List.length x.snd.fst) : Int)) = false →
 List.length (allI x.fst) ≤ (10000 : Nat) ∧
 (((0 : Int) = (0 : Int) ∧
 True ∧
 x.fst = x.fst ∧
 x.snd.snd.fst = x.snd.snd.fst ∧
 True ∧
 allI x.fst = allI x.fst ∧
 (↑(List.length (allI x.fst)) : Int) =
 (↑(List.length (allI x.fst)) : Int)) ∧
 (a_3 = a_3 ∧ True) ∧ True ∧ True) ∧
 ∃ (Z : List Inl × Int × Unit → Prop),
 ∃ (μ : List Inl × Int × Unit → Nat),
 Z ([], (0 : Int), ()) ∧
 ∀ (a : List Inl) (a_5 : Int),
 Z (a, a_5, ()) →
 (decide (a_5 < (↑(List.length (allI x.fst)) : Int)) = true →
 ((0 : Int) ≤ a_5 ∧ a_5 < (↑(List.length (allI x.fst)) : Int)) ∧
 (Option.isSome
 (mget t3 t42
 (List.getD (allI x.fst) (Int.toNat a_5)
 (Ty.dflt t42)).fst
 a_3) =
 true →
 (List.length a +
 List.length
 [List.getD (allI x.fst) (Int.toNat a_5)
 (Ty.dflt t42)]) *
 (48 : Nat) ≤
 (140737488355328 : Nat) ∧
 List.length a +
 List.length
 [List.getD (allI x.fst) (Int.toNat a_5)
 (Ty.dflt t42)] ≤
 maxLen ∧
 ((IntKind.wrap IntKind.i64 (a_5 + (1 : Int)) =
 IntKind.wrap IntKind.i64 (a_5 + (1 : Int)) ∧
 True ∧
 x.fst = x.fst ∧
 x.snd.snd.fst = x.snd.snd.fst ∧
 True ∧
 allI x.fst = allI x.fst ∧
 (↑(List.length (allI x.fst)) : Int) =
 (↑(List.length (allI x.fst)) :
 Int)) ∧
 (a_3 = a_3 ∧ True) ∧
 a ++
 [List.getD (allI x.fst) (Int.toNat a_5)
 (Ty.dflt t42)] =
 a ++
 [List.getD (allI x.fst) (Int.toNat a_5)
 (Ty.dflt t42)] ∧
 True) ∧
 Z
 (a ++
 [List.getD (allI x.fst) (Int.toNat a_5)
 (Ty.dflt t42)],
 IntKind.wrap IntKind.i64 (a_5 + (1 : Int)),
 ()) ∧
 μ
 (a ++
 [List.getD (allI x.fst) (Int.toNat a_5)
 (Ty.dflt t42)],
 IntKind.wrap IntKind.i64 (a_5 + (1 : Int)),
 ()) <
 μ (a, a_5, ())) ∧
 (Option.isSome
 (mget t3 t42
 (List.getD (allI x.fst) (Int.toNat a_5)
 (Ty.dflt t42)).fst
 a_3) =
 false →
 ((IntKind.wrap IntKind.i64 (a_5 + (1 : Int)) =
 IntKind.wrap IntKind.i64 (a_5 + (1 : Int)) ∧
 True ∧
 x.fst = x.fst ∧
 x.snd.snd.fst = x.snd.snd.fst ∧
 True ∧
 allI x.fst = allI x.fst ∧
 (↑(List.length (allI x.fst)) : Int) =
 (↑(List.length (allI x.fst)) : Int)) ∧
 (a_3 = a_3 ∧ True) ∧ a = a ∧ True) ∧
 Z (a, IntKind.wrap IntKind.i64 (a_5 + (1 : Int)), ()) ∧
 μ
 (a, IntKind.wrap IntKind.i64 (a_5 + (1 : Int)),
 ()) <
 μ (a, a_5, ()))) ∧
 (decide (a_5 < (↑(List.length (allI x.fst)) : Int)) = false →
 True ∧
 (List.length a + List.length x.snd.snd.fst) * (48 : Nat) ≤
 (140737488355328 : Nat) ∧
 List.length a + List.length x.snd.snd.fst ≤ maxLen ∧
 (List.length (a ++ x.snd.snd.fst) ≤ maxLen ∧
 shortL (a ++ x.snd.snd.fst)) ∧
 newI (lenI x.fst) (a ++ x.snd.snd.fst) =
 spliceI x.fst x.snd.fst x.snd.snd.fst)))
theorem vcEq16 : fnVC E16 Tryd.f16 (bodyOf Tryd.f16) cSplice = vc16 := by kernel_rfl
/- fn 17 -/
def hs17 : List (Nat × Nat × Hint) := [(0, 4, ⟨[.rowS 7 900000007 t42 42, .slot 8 t3, .slot 15 t3], [1, 2, 3, 6, 13, 14], [3, 6], []⟩)]
def nm17 : List Nat := [3000000025]
noncomputable def E17 : Env := env tab [(33, cTimes), (11, cRefNew)] [] gl hs17 nm17
def vc17 : Prop :=
 ∀
 (x :
 (Int × List Inl × Int × Unit) ×
 List Int × List Inl × Unit),
 okW x.fst ∧ List.length x.snd.fst ≤ (10000 : Nat) ∧ List.length x.snd.snd.fst ≤ (10000 : Nat) ∧ shortL x.snd.snd.fst →
 (((0 : Int) = (0 : Int) ∧
 (0 : Int) = (0 : Int) ∧
 True ∧
 x.snd.fst = x.snd.fst ∧
 x.snd.snd.fst = x.snd.snd.fst ∧
 True ∧
 True ∧
 x.fst.snd.fst = x.fst.snd.fst ∧
 (↑(List.length x.fst.snd.fst) : Int) = (↑(List.length x.fst.snd.fst) : Int)) ∧
 ((x.fst.fst = x.fst.fst ∧ x.fst.snd.fst = x.fst.snd.fst ∧ x.fst.snd.snd.fst = x.fst.snd.snd.fst) ∧
 (0 : Int) = (0 : Int) ∧
 Value.slice none (0 : Nat) (0 : Nat) = Value.slice none (0 : Nat) (0 : Nat) ∧ (0 : Int) = (0 : Int)) ∧
 True ∧ True) ∧
 ∃ (Z : List Inl × Int × Int × Unit → Prop),
 ∃ (μ : List Inl × Int × Int × Unit → Nat),
 Z ([], (0 : Int), (0 : Int), ()) ∧
 ∀ (a : List Inl) (a_1 a_2 : Int),
 Z (a, a_1, a_2, ()) →
 (decide (a_2 < (↑(List.length x.fst.snd.fst) : Int)) = true →
 ((0 : Int) ≤ a_2 ∧ a_2 < (↑(List.length x.fst.snd.fst) : Int)) ∧
 List.length x.snd.fst ≤ maxLen ∧
 ((timesI (List.getD x.fst.snd.fst (Int.toNat a_2) (Ty.dflt t42)).fst x.snd.fst == (0 : Int)) =
 true →
 (List.length a + List.length [List.getD x.fst.snd.fst (Int.toNat a_2) (Ty.dflt t42)]) *
 (48 : Nat) ≤
 (140737488355328 : Nat) ∧
 List.length a + List.length [List.getD x.fst.snd.fst (Int.toNat a_2) (Ty.dflt t42)] ≤
 maxLen ∧
 ((timesI (List.getD x.fst.snd.fst (Int.toNat a_2) (Ty.dflt t42)).fst x.snd.fst ==
 (1 : Int)) =
 true →
 ((IntKind.wrap IntKind.i64 (a_2 + (1 : Int)) =
 IntKind.wrap IntKind.i64 (a_2 + (1 : Int)) ∧
 IntKind.wrap IntKind.i64 (a_1 + (1 : Int)) =
 IntKind.wrap IntKind.i64 (a_1 + (1 : Int)) ∧
 True ∧
 x.snd.fst = x.snd.fst ∧
 x.snd.snd.fst = x.snd.snd.fst ∧
 True ∧
 True ∧
 x.fst.snd.fst = x.fst.snd.fst ∧
 (↑(List.length x.fst.snd.fst) : Int) =
 (↑(List.length x.fst.snd.fst) : Int)) ∧
 ((x.fst.fst = x.fst.fst ∧
 x.fst.snd.fst = x.fst.snd.fst ∧ x.fst.snd.snd.fst = x.fst.snd.snd.fst) ∧
 (0 : Int) = (0 : Int) ∧
 Value.slice none (0 : Nat) (0 : Nat) =
 Value.slice none (0 : Nat) (0 : Nat) ∧
 (0 : Int) = (0 : Int)) ∧
 a ++ [List.getD x.fst.snd.fst (Int.toNat a_2) (Ty.dflt t42)] =
 a ++ [List.getD x.fst.snd.fst (Int.toNat a_2) (Ty.dflt t42)] ∧
 True) ∧
 Z
 (a ++ [List.getD x.fst.snd.fst (Int.toNat a_2) (Ty.dflt t42)],
 IntKind.wrap IntKind.i64 (a_1 + (1 : Int)),
 IntKind.wrap IntKind.i64 (a_2 + (1 : Int)), ()) ∧
 μ
 (a ++ [List.getD x.fst.snd.fst (Int.toNat a_2) (Ty.dflt t42)],
 IntKind.wrap IntKind.i64 (a_1 + (1 : Int)),
 IntKind.wrap IntKind.i64 (a_2 + (1 : Int)), ()) <
 μ (a, a_1, a_2, ())) ∧
 ((timesI (List.getD x.fst.snd.fst (Int.toNat a_2) (Ty.dflt t42)).fst x.snd.fst ==
 (1 : Int)) =
 false →
 ((IntKind.wrap IntKind.i64 (a_2 + (1 : Int)) =
 IntKind.wrap IntKind.i64 (a_2 + (1 : Int)) ∧
 a_1 = a_1 ∧
 True ∧
 x.snd.fst = x.snd.fst ∧
 x.snd.snd.fst = x.snd.snd.fst ∧
 True ∧
 True ∧
 x.fst.snd.fst = x.fst.snd.fst ∧
 (↑(List.length x.fst.snd.fst) : Int) =
 (↑(List.length x.fst.snd.fst) : Int)) ∧
 ((x.fst.fst = x.fst.fst ∧
 x.fst.snd.fst = x.fst.snd.fst ∧ x.fst.snd.snd.fst = x.fst.snd.snd.fst) ∧
 (0 : Int) = (0 : Int) ∧
 Value.slice none (0 : Nat) (0 : Nat) =
 Value.slice none (0 : Nat) (0 : Nat) ∧
 (0 : Int) = (0 : Int)) ∧
 a ++ [List.getD x.fst.snd.fst (Int.toNat a_2) (Ty.dflt t42)] =
 a ++ [List.getD x.fst.snd.fst (Int.toNat a_2) (Ty.dflt t42)] ∧
 True) ∧
 Z
 (a ++ [List.getD x.fst.snd.fst (Int.toNat a_2) (Ty.dflt t42)], a_1,
 IntKind.wrap IntKind.i64 (a_2 + (1 : Int)), ()) ∧
 μ
 (a ++ [List.getD x.fst.snd.fst (Int.toNat a_2) (Ty.dflt t42)], a_1,
 IntKind.wrap IntKind.i64 (a_2 + (1 : Int)), ()) <
 μ (a, a_1, a_2, ()))) ∧
 ((timesI (List.getD x.fst.snd.fst (Int.toNat a_2) (Ty.dflt t42)).fst x.snd.fst == (0 : Int)) =
 false →
 ((timesI (List.getD x.fst.snd.fst (Int.toNat a_2) (Ty.dflt t42)).fst x.snd.fst ==
 (1 : Int)) =
 true →
 ((IntKind.wrap IntKind.i64 (a_2 + (1 : Int)) =
 IntKind.wrap IntKind.i64 (a_2 + (1 : Int)) ∧
 IntKind.wrap IntKind.i64 (a_1 + (1 : Int)) =
 IntKind.wrap IntKind.i64 (a_1 + (1 : Int)) ∧
 True ∧
 x.snd.fst = x.snd.fst ∧
 x.snd.snd.fst = x.snd.snd.fst ∧
 True ∧
 True ∧
 x.fst.snd.fst = x.fst.snd.fst ∧
 (↑(List.length x.fst.snd.fst) : Int) =
 (↑(List.length x.fst.snd.fst) : Int)) ∧
 ((x.fst.fst = x.fst.fst ∧
 x.fst.snd.fst = x.fst.snd.fst ∧ x.fst.snd.snd.fst = x.fst.snd.snd.fst) ∧
 (0 : Int) = (0 : Int) ∧
 Value.slice none (0 : Nat) (0 : Nat) = Value.slice none (0 : Nat) (0 : Nat) ∧
 (0 : Int) = (0 : Int)) ∧
 a = a ∧ True) ∧
 Z
 (a, IntKind.wrap IntKind.i64 (a_1 + (1 : Int)),
 IntKind.wrap IntKind.i64 (a_2 + (1 : Int)), ()) ∧
 μ
 (a, IntKind.wrap IntKind.i64 (a_1 + (1 : Int)),
 IntKind.wrap IntKind.i64 (a_2 + (1 : Int)), ()) <
 μ (a, a_1, a_2, ())) ∧
 ((timesI (List.getD x.fst.snd.fst (Int.toNat a_2) (Ty.dflt t42)).fst x.snd.fst ==
 (1 : Int)) =
 false →
 ((IntKind.wrap IntKind.i64 (a_2 + (1 : Int)) =
 IntKind.wrap IntKind.i64 (a_2 + (1 : Int)) ∧
 a_1 = a_1 ∧
 True ∧
 x.snd.fst = x.snd.fst ∧
 x.snd.snd.fst = x.snd.snd.fst ∧
 True ∧
 True ∧
 x.fst.snd.fst = x.fst.snd.fst ∧
 (↑(List.length x.fst.snd.fst) : Int) =
 (↑(List.length x.fst.snd.fst) : Int)) ∧
 ((x.fst.fst = x.fst.fst ∧
 x.fst.snd.fst = x.fst.snd.fst ∧ x.fst.snd.snd.fst = x.fst.snd.snd.fst) ∧
 (0 : Int) = (0 : Int) ∧
 Value.slice none (0 : Nat) (0 : Nat) = Value.slice none (0 : Nat) (0 : Nat) ∧
 (0 : Int) = (0 : Int)) ∧
 a = a ∧ True) ∧
 Z (a, a_1, IntKind.wrap IntKind.i64 (a_2 + (1 : Int)), ()) ∧
 μ (a, a_1, IntKind.wrap IntKind.i64 (a_2 + (1 : Int)), ()) <
 μ (a, a_1, a_2, ())))) ∧
 (decide (a_2 < (↑(List.length x.fst.snd.fst) : Int)) = false →
 (decide (a_1 < (↑(List.length x.snd.fst) : Int)) = true →
 ((0 : Int), [], (6 : Int), ()) = spliceW x.fst x.snd.fst x.snd.snd.fst) ∧
 (decide (a_1 < (↑(List.length x.snd.fst) : Int)) = false →
 (List.length a + List.length x.snd.snd.fst) * (48 : Nat) ≤ (140737488355328 : Nat) ∧
 List.length a + List.length x.snd.snd.fst ≤ maxLen ∧
 (List.length (a ++ x.snd.snd.fst) ≤ maxLen ∧ shortL (a ++ x.snd.snd.fst)) ∧
 newW x.fst.fst (a ++ x.snd.snd.fst) = spliceW x.fst x.snd.fst x.snd.snd.fst))
theorem vcEq17 : fnVC E17 Tryd.f17 (bodyOf Tryd.f17) cRefSplice = vc17 := by kernel_rfl
/- fn 18 -/
def hs18 : List (Nat × Nat × Hint) := []
def nm18 : List Nat := [3000000025]
noncomputable def E18 : Env := env tab [(34, cClone)] [] gl hs18 nm18
def vc18 : Prop :=
 ∀ (x : Option (Int × List Inl × Unit) × Unit),
 List.length (allI x.fst) ≤ (10000 : Nat) →
 (Option.isNone x.fst = true → [] = allI x.fst) ∧
 (Option.isNone x.fst = false →
 Option.isSome x.fst = true ∧
 List.length (List.getD (optL x.fst) (0 : Nat) (Ty.dflt t58)).snd.fst ≤ (10000 : Nat) ∧
 (List.getD (optL x.fst) (0 : Nat) (Ty.dflt t58)).snd.fst = allI x.fst)
theorem vcEq18 : fnVC E18 Tryd.f18 (bodyOf Tryd.f18) cAll = vc18 := by kernel_rfl
/- fn 20 -/
def hs20 : List (Nat × Nat × Hint) := [(0, 6, ⟨[.slot 5 t3, .slot 6 t3, .slot 20 t3], [1, 2, 4, 18, 19], [2, 4], []⟩),
  (0, 15, ⟨[.rowS 9 900000009 t42 42, .slot 57 t3], [1, 4, 5, 55, 56], [4], []⟩)]
def nm20 : List Nat := [3000000025]
noncomputable def E20 : Env := env tab [(38, cRefNormal), (39, cRefMap), (11, cRefNew)] [] gl hs20 nm20
def vc20 : Prop :=
 ∀
 (x :
 (Int × List Inl × Int × Unit) ×
 List Chg × Unit),
 okW x.fst ∧
 (∀ (m : Ty.den t42), m ∈ x.fst.snd.fst → (0 : Int) ≤ m.snd.fst ∧ m.snd.fst ≤ (1099511627776 : Int)) ∧
 List.length x.snd.fst ≤ (1000 : Nat) →
 List.length x.snd.fst ≤ maxLen ∧
 ((!normal x.snd.fst) = true → ((0 : Int), [], (4 : Int), ()) = shiftW x.fst x.snd.fst) ∧
 ((!normal x.snd.fst) = false →
 (((0 : Int) = (0 : Int) ∧
 (0 : Int) = (0 : Int) ∧
 x.fst.fst = x.fst.fst ∧
 x.snd.fst = x.snd.fst ∧
 True ∧
 True ∧
 x.snd.fst = x.snd.fst ∧ (↑(List.length x.snd.fst) : Int) = (↑(List.length x.snd.fst) : Int)) ∧
 (x.fst.fst = x.fst.fst ∧ x.fst.snd.fst = x.fst.snd.fst ∧ x.fst.snd.snd.fst = x.fst.snd.snd.fst) ∧
 (0 : Int) = (0 : Int) ∧
 Value.slice none (0 : Nat) (0 : Nat) = Value.slice none (0 : Nat) (0 : Nat) ∧ (0 : Int) = (0 : Int)) ∧
 ∃ (Z : Int × Int × Int × Unit → Prop),
 ∃ (μ : Int × Int × Int × Unit → Nat),
 Z (x.fst.fst, (0 : Int), (0 : Int), ()) ∧
 ∀ (a a_1 a_2 : Int),
 Z (a, a_1, a_2, ()) →
 (decide (a_2 < (↑(List.length x.snd.fst) : Int)) = true →
 ((0 : Int) ≤ a_2 ∧ a_2 < (↑(List.length x.snd.fst) : Int)) ∧
 ((IntKind.wrap IntKind.i64 (a_2 + (1 : Int)) = IntKind.wrap IntKind.i64 (a_2 + (1 : Int)) ∧
 (List.getD x.snd.fst (Int.toNat a_2) (Ty.dflt t84)).fst.snd.fst =
 (List.getD x.snd.fst (Int.toNat a_2) (Ty.dflt t84)).fst.snd.fst ∧
 IntKind.wrap IntKind.i64
 (IntKind.wrap IntKind.i64
 (a +
 IntKind.wrap IntKind.i64
 ((List.getD x.snd.fst (Int.toNat a_2) (Ty.dflt t84)).snd.fst.snd.fst -
 (List.getD x.snd.fst (Int.toNat a_2) (Ty.dflt t84)).snd.fst.fst)) -
 IntKind.wrap IntKind.i64
 ((List.getD x.snd.fst (Int.toNat a_2) (Ty.dflt t84)).fst.snd.fst -
 (List.getD x.snd.fst (Int.toNat a_2) (Ty.dflt t84)).fst.fst)) =
 IntKind.wrap IntKind.i64
 (IntKind.wrap IntKind.i64
 (a +
 IntKind.wrap IntKind.i64
 ((List.getD x.snd.fst (Int.toNat a_2) (Ty.dflt t84)).snd.fst.snd.fst -
 (List.getD x.snd.fst (Int.toNat a_2) (Ty.dflt t84)).snd.fst.fst)) -
 IntKind.wrap IntKind.i64
 ((List.getD x.snd.fst (Int.toNat a_2) (Ty.dflt t84)).fst.snd.fst -
 (List.getD x.snd.fst (Int.toNat a_2) (Ty.dflt t84)).fst.fst)) ∧
 x.snd.fst = x.snd.fst ∧
 True ∧
 True ∧
 x.snd.fst = x.snd.fst ∧
 (↑(List.length x.snd.fst) : Int) = (↑(List.length x.snd.fst) : Int)) ∧
 (x.fst.fst = x.fst.fst ∧
 x.fst.snd.fst = x.fst.snd.fst ∧ x.fst.snd.snd.fst = x.fst.snd.snd.fst) ∧
 (0 : Int) = (0 : Int) ∧
 Value.slice none (0 : Nat) (0 : Nat) = Value.slice none (0 : Nat) (0 : Nat) ∧
 (0 : Int) = (0 : Int)) ∧
 Z
 (IntKind.wrap IntKind.i64
 (IntKind.wrap IntKind.i64
 (a +
 IntKind.wrap IntKind.i64
 ((List.getD x.snd.fst (Int.toNat a_2) (Ty.dflt t84)).snd.fst.snd.fst -
 (List.getD x.snd.fst (Int.toNat a_2) (Ty.dflt t84)).snd.fst.fst)) -
 IntKind.wrap IntKind.i64
 ((List.getD x.snd.fst (Int.toNat a_2) (Ty.dflt t84)).fst.snd.fst -
 (List.getD x.snd.fst (Int.toNat a_2) (Ty.dflt t84)).fst.fst)),
 (List.getD x.snd.fst (Int.toNat a_2) (Ty.dflt t84)).fst.snd.fst,
 IntKind.wrap IntKind.i64 (a_2 + (1 : Int)), ()) ∧
 μ
 (IntKind.wrap IntKind.i64
 (IntKind.wrap IntKind.i64
 (a +
 IntKind.wrap IntKind.i64
 ((List.getD x.snd.fst (Int.toNat a_2) (Ty.dflt t84)).snd.fst.snd.fst -
 (List.getD x.snd.fst (Int.toNat a_2) (Ty.dflt t84)).snd.fst.fst)) -
 IntKind.wrap IntKind.i64
 ((List.getD x.snd.fst (Int.toNat a_2) (Ty.dflt t84)).fst.snd.fst -
 (List.getD x.snd.fst (Int.toNat a_2) (Ty.dflt t84)).fst.fst)),
 (List.getD x.snd.fst (Int.toNat a_2) (Ty.dflt t84)).fst.snd.fst,
 IntKind.wrap IntKind.i64 (a_2 + (1 : Int)), ()) <
 μ (a, a_1, a_2, ())) ∧
 (decide (a_2 < (↑(List.length x.snd.fst) : Int)) = false →
 (decide (a_1 > x.fst.fst) = true → ((0 : Int), [], (1 : Int), ()) = shiftW x.fst x.snd.fst) ∧
 (decide (a_1 > x.fst.fst) = false →
 (decide (a > (1099511627776 : Int)) = true →
 ((0 : Int), [], (1 : Int), ()) = shiftW x.fst x.snd.fst) ∧
 (decide (a > (1099511627776 : Int)) = false →
 (((0 : Int) = (0 : Int) ∧
 True ∧
 x.snd.fst = x.snd.fst ∧
 True ∧
 a = a ∧
 x.fst.snd.fst = x.fst.snd.fst ∧
 (↑(List.length x.fst.snd.fst) : Int) =
 (↑(List.length x.fst.snd.fst) : Int)) ∧
 ((0 : Int) = (0 : Int) ∧
 Value.slice none (0 : Nat) (0 : Nat) = Value.slice none (0 : Nat) (0 : Nat) ∧
 (0 : Int) = (0 : Int)) ∧
 True ∧ True) ∧
 ∃ (Z : List Inl × Int × Unit → Prop),
 ∃ (μ : List Inl × Int × Unit → Nat),
 Z ([], (0 : Int), ()) ∧
 ∀ (a_7 : List Inl) (a_8 : Int),
 Z (a_7, a_8, ()) →
 (decide (a_8 < (↑(List.length x.fst.snd.fst) : Int)) = true →
 ((0 : Int) ≤ a_8 ∧ a_8 < (↑(List.length x.fst.snd.fst) : Int)) ∧
 (List.length x.snd.fst ≤ maxLen ∧
 normal x.snd.fst = true ∧
 (0 : Int) ≤
 (List.getD x.fst.snd.fst (Int.toNat a_8)
 (Ty.dflt t42)).snd.fst ∧
 (List.getD x.fst.snd.fst (Int.toNat a_8)
 (Ty.dflt t42)).snd.fst ≤
 (1099511627776 : Int)) ∧
 (List.length a_7 +
 List.length
 [((List.getD x.fst.snd.fst (Int.toNat a_8)
 (Ty.dflt t42)).fst,
 refMap
 (List.getD x.fst.snd.fst (Int.toNat a_8)
 (Ty.dflt t42)).snd.fst
 (List.getD x.fst.snd.fst (Int.toNat a_8)
 (Ty.dflt t42)).snd.snd.fst
 x.snd.fst (0 : Int),
 (List.getD x.fst.snd.fst (Int.toNat a_8)
 (Ty.dflt t42)).snd.snd)]) *
 (48 : Nat) ≤
 (140737488355328 : Nat) ∧
 List.length a_7 +
 List.length
 [((List.getD x.fst.snd.fst (Int.toNat a_8)
 (Ty.dflt t42)).fst,
 refMap
 (List.getD x.fst.snd.fst (Int.toNat a_8)
 (Ty.dflt t42)).snd.fst
 (List.getD x.fst.snd.fst (Int.toNat a_8)
 (Ty.dflt t42)).snd.snd.fst
 x.snd.fst (0 : Int),
 (List.getD x.fst.snd.fst (Int.toNat a_8)
 (Ty.dflt t42)).snd.snd)] ≤
 maxLen ∧
 ((IntKind.wrap IntKind.i64 (a_8 + (1 : Int)) =
 IntKind.wrap IntKind.i64 (a_8 + (1 : Int)) ∧
 True ∧
 x.snd.fst = x.snd.fst ∧
 True ∧
 a = a ∧
 x.fst.snd.fst = x.fst.snd.fst ∧
 (↑(List.length x.fst.snd.fst) : Int) =
 (↑(List.length x.fst.snd.fst) : Int)) ∧
 ((0 : Int) = (0 : Int) ∧
 Value.slice none (0 : Nat) (0 : Nat) =
 Value.slice none (0 : Nat) (0 : Nat) ∧
 (0 : Int) = (0 : Int)) ∧
 a_7 ++
 [((List.getD x.fst.snd.fst (Int.toNat a_8)
 (Ty.dflt t42)).fst,
 refMap
 (List.getD x.fst.snd.fst (Int.toNat a_8)
 (Ty.dflt t42)).snd.fst
 (List.getD x.fst.snd.fst (Int.toNat a_8)
 (Ty.dflt t42)).snd.snd.fst
 x.snd.fst (0 : Int),
 (List.getD x.fst.snd.fst (Int.toNat a_8)
 (Ty.dflt t42)).snd.snd)] =
 a_7 ++
 [((List.getD x.fst.snd.fst (Int.toNat a_8)
 (Ty.dflt t42)).fst,
 refMap
 (List.getD x.fst.snd.fst (Int.toNat a_8)
 (Ty.dflt t42)).snd.fst
 (List.getD x.fst.snd.fst (Int.toNat a_8)
 (Ty.dflt t42)).snd.snd.fst
 x.snd.fst (0 : Int),
 (List.getD x.fst.snd.fst (Int.toNat a_8)
 (Ty.dflt t42)).snd.snd)] ∧
 True) ∧
 Z
 (a_7 ++
 [((List.getD x.fst.snd.fst (Int.toNat a_8)
 (Ty.dflt t42)).fst,
 refMap
 (List.getD x.fst.snd.fst (Int.toNat a_8)
 (Ty.dflt t42)).snd.fst
 (List.getD x.fst.snd.fst (Int.toNat a_8)
 (Ty.dflt t42)).snd.snd.fst
 x.snd.fst (0 : Int),
 (List.getD x.fst.snd.fst (Int.toNat a_8)
 (Ty.dflt t42)).snd.snd)],
 IntKind.wrap IntKind.i64 (a_8 + (1 : Int)), ()) ∧
 μ
 (a_7 ++
 [((List.getD x.fst.snd.fst (Int.toNat a_8)
 (Ty.dflt t42)).fst,
 refMap
 (List.getD x.fst.snd.fst (Int.toNat a_8)
 (Ty.dflt t42)).snd.fst
 (List.getD x.fst.snd.fst (Int.toNat a_8)
 (Ty.dflt t42)).snd.snd.fst
 x.snd.fst (0 : Int),
 (List.getD x.fst.snd.fst (Int.toNat a_8)
 (Ty.dflt t42)).snd.snd)],
 IntKind.wrap IntKind.i64 (a_8 + (1 : Int)), ()) <
 μ (a_7, a_8, ())) ∧
 (decide (a_8 < (↑(List.length x.fst.snd.fst) : Int)) = false →
 (List.length a_7 ≤ maxLen ∧ shortL a_7) ∧
 newW a a_7 = shiftW x.fst x.snd.fst)))))
theorem vcEq20 : fnVC E20 Tryd.f20 (bodyOf Tryd.f20) cRefShift = vc20 := by kernel_rfl
/- fn 21 -/
def hs21 : List (Nat × Nat × Hint) := [(0, 3, ⟨[.rowS 3 900000003 t84 84, .slot 8 t3], [6, 7], [], []⟩)]
def nm21 : List Nat := [3000000025]
noncomputable def E21 : Env := env tab [] [] gl hs21 nm21
def vc21 : Prop :=
 ∀ (x : List Chg × Unit),
 List.length x.fst ≤ (1000000000 : Nat) →
 (((0 : Int) = (0 : Int) ∧ True ∧ x.fst = x.fst ∧ (↑(List.length x.fst) : Int) = (↑(List.length x.fst) : Int)) ∧
 True ∧ True) ∧
 ∃ (Z : List Chg × Int × Unit → Prop),
 ∃ (μ : List Chg × Int × Unit → Nat),
 Z ([], (0 : Int), ()) ∧
 ∀ (a : List Chg) (a_1 : Int),
 Z (a, a_1, ()) →
 (decide (a_1 < (↑(List.length x.fst) : Int)) = true →
 ((0 : Int) ≤ a_1 ∧ a_1 < (↑(List.length x.fst) : Int)) ∧
 (List.length a + List.length [List.getD x.fst (Int.toNat a_1) (Ty.dflt t79)]) * (32 : Nat) ≤
 (140737488355328 : Nat) ∧
 List.length a + List.length [List.getD x.fst (Int.toNat a_1) (Ty.dflt t79)] ≤ maxLen ∧
 ((IntKind.wrap IntKind.i64 (a_1 + (1 : Int)) = IntKind.wrap IntKind.i64 (a_1 + (1 : Int)) ∧
 True ∧ x.fst = x.fst ∧ (↑(List.length x.fst) : Int) = (↑(List.length x.fst) : Int)) ∧
 a ++ [List.getD x.fst (Int.toNat a_1) (Ty.dflt t79)] =
 a ++ [List.getD x.fst (Int.toNat a_1) (Ty.dflt t79)] ∧
 True) ∧
 Z
 (a ++ [List.getD x.fst (Int.toNat a_1) (Ty.dflt t79)],
 IntKind.wrap IntKind.i64 (a_1 + (1 : Int)), ()) ∧
 μ
 (a ++ [List.getD x.fst (Int.toNat a_1) (Ty.dflt t79)],
 IntKind.wrap IntKind.i64 (a_1 + (1 : Int)), ()) <
 μ (a, a_1, ())) ∧
 (decide (a_1 < (↑(List.length x.fst) : Int)) = false → a = x.fst)
theorem vcEq21 : fnVC E21 Tryd.f21 (bodyOf Tryd.f21) cChanges = vc21 := by kernel_rfl
/- fn 22 -/
def hs22 : List (Nat × Nat × Hint) := []
def nm22 : List Nat := [3000000025]
noncomputable def E22 : Env := env tab [] [] gl hs22 nm22
def vc22 : Prop :=
 ∀ (x : Option (Int × List Inl × Unit) × Unit),
 True →
 (Option.isNone x.fst = true → (0 : Int) = lenI x.fst) ∧
 (Option.isNone x.fst = false →
 Option.isSome x.fst = true ∧ (List.getD (optL x.fst) (0 : Nat) (Ty.dflt t58)).fst = lenI x.fst)
theorem vcEq22 : fnVC E22 Tryd.f22 (bodyOf Tryd.f22) cLen = vc22 := by kernel_rfl
/- fn 23 -/
def hs23 : List (Nat × Nat × Hint) := []
def nm23 : List Nat := [3000000025]
noncomputable def E23 : Env := env tab [(40, cCount), (41, cContains)] [] gl hs23 nm23
def vc23 : Prop :=
 ∀ (x : Int × Inl × Unit),
 ByteArray.size (txt x.snd.fst) ≤ maxLen →
 (decide (x.snd.fst.fst < (1 : Int)) = true → (1 : Int) = wrongI x.fst x.snd.fst) ∧
 (decide (x.snd.fst.fst < (1 : Int)) = false →
 (decide (x.snd.fst.snd.fst < (0 : Int)) = true → (1 : Int) = wrongI x.fst x.snd.fst) ∧
 (decide (x.snd.fst.snd.fst < (0 : Int)) = false →
 (decide (x.snd.fst.snd.fst > x.fst) = true → (1 : Int) = wrongI x.fst x.snd.fst) ∧
 (decide (x.snd.fst.snd.fst > x.fst) = false →
 ((x.snd.fst.snd.snd.fst != (0 : Int)) = true →
 ((x.snd.fst.snd.snd.fst != (1 : Int)) = true → (1 : Int) = wrongI x.fst x.snd.fst) ∧
 ((x.snd.fst.snd.snd.fst != (1 : Int)) = false →
 ByteArray.size x.snd.fst.snd.snd.snd.snd.fst ≤ maxLen ∧
 (decide ((↑(List.length (decodeL x.snd.fst.snd.snd.snd.snd.fst)) : Int) > (40 : Int)) = true →
 (2 : Int) = wrongI x.fst x.snd.fst) ∧
 (decide ((↑(List.length (decodeL x.snd.fst.snd.snd.snd.snd.fst)) : Int) > (40 : Int)) =
 false →
 ((ByteArray.toList x.snd.fst.snd.snd.snd.snd.fst == ByteArray.toList (ByteArray.mk #[])) =
 true →
 (4 : Int) = wrongI x.fst x.snd.fst) ∧
 ((ByteArray.toList x.snd.fst.snd.snd.snd.snd.fst == ByteArray.toList (ByteArray.mk #[])) =
 false →
 (ByteArray.mk #[(10 : UInt8)]) = (ByteArray.mk #[(10 : UInt8)]) ∧
 (hasNL x.snd.fst.snd.snd.snd.snd.fst = true → (4 : Int) = wrongI x.fst x.snd.fst) ∧
 (hasNL x.snd.fst.snd.snd.snd.snd.fst = false →
 (0 : Int) = wrongI x.fst x.snd.fst))))) ∧
 ((x.snd.fst.snd.snd.fst != (0 : Int)) = false →
 ByteArray.size x.snd.fst.snd.snd.snd.snd.fst ≤ maxLen ∧
 (decide ((↑(List.length (decodeL x.snd.fst.snd.snd.snd.snd.fst)) : Int) > (40 : Int)) = true →
 (2 : Int) = wrongI x.fst x.snd.fst) ∧
 (decide ((↑(List.length (decodeL x.snd.fst.snd.snd.snd.snd.fst)) : Int) > (40 : Int)) = false →
 ((ByteArray.toList x.snd.fst.snd.snd.snd.snd.fst == ByteArray.toList (ByteArray.mk #[])) = true →
 (4 : Int) = wrongI x.fst x.snd.fst) ∧
 ((ByteArray.toList x.snd.fst.snd.snd.snd.snd.fst == ByteArray.toList (ByteArray.mk #[])) =
 false →
 (ByteArray.mk #[(10 : UInt8)]) = (ByteArray.mk #[(10 : UInt8)]) ∧
 (hasNL x.snd.fst.snd.snd.snd.snd.fst = true → (4 : Int) = wrongI x.fst x.snd.fst) ∧
 (hasNL x.snd.fst.snd.snd.snd.snd.fst = false →
 (0 : Int) = wrongI x.fst x.snd.fst)))))))
theorem vcEq23 : fnVC E23 Tryd.f23 (bodyOf Tryd.f23) cWrong = vc23 := by kernel_rfl
/- fn 24 -/
def hs24 : List (Nat × Nat × Hint) := []
def nm24 : List Nat := [3000000025]
noncomputable def E24 : Env := env tab [(43, cDecode), (42, cEncode)] [] gl hs24 nm24
def vc24 : Prop :=
 ∀ (x : ByteArray × Unit),
 ByteArray.size x.fst ≤ (100000000 : Nat) →
 ByteArray.size x.fst ≤ (1000000000 : Nat) ∧
 List.length (decodeL x.fst) ≤ (1000000000 : Nat) ∧ encode (decodeL x.fst) = clean x.fst
theorem vcEq24 : fnVC E24 Tryd.f24 (bodyOf Tryd.f24) cClean = vc24 := by kernel_rfl
/- fn 26 -/
def hs26 : List (Nat × Nat × Hint) := []
def nm26 : List Nat := [3000000025]
noncomputable def E26 : Env := env tab [(47, cCmp), (46, cOr)] [] gl hs26 nm26
def vc26 : Prop :=
 ∀ (x : Inl × Inl × Unit),
 True →
 True ∧
 True ∧
 True ∧
 List.length
 [cmpI x.fst.snd.fst x.snd.fst.snd.fst, cmpI x.fst.snd.snd.snd.fst x.snd.fst.snd.snd.snd.fst,
 cmpI x.fst.fst x.snd.fst.fst] ≤
 maxLen ∧
 firstNZ
 [cmpI x.fst.snd.fst x.snd.fst.snd.fst, cmpI x.fst.snd.snd.snd.fst x.snd.fst.snd.snd.snd.fst,
 cmpI x.fst.fst x.snd.fst.fst] =
 cmpL x.fst x.snd.fst
theorem vcEq26 : fnVC E26 Tryd.f26 (bodyOf Tryd.f26) cOrder = vc26 := by kernel_rfl
/- fn 27 -/
def hs27 : List (Nat × Nat × Hint) := [(0, 9, ⟨[.slot 47 t3], [1, 5, 45, 46], [5], []⟩),
  (0, 15, ⟨[.slot 56 t3], [5, 54, 55], [5], []⟩)]
def nm27 : List Nat := [3000000025]
noncomputable def E27 : Env := env tab [(29, cRDecode)] [] gl hs27 nm27
def vc27 : Prop :=
 ∀ (x : Int × List Inl × Inl × Unit),
 List.length x.snd.fst ≤ maxLen ∧ ByteArray.size (txt x.snd.snd.fst) ≤ (1000000000 : Nat) →
 (decide (x.snd.snd.fst.fst < (1 : Int)) = true → (1 : Int) = wrongW x.fst x.snd.fst x.snd.snd.fst) ∧
 (decide (x.snd.snd.fst.fst < (1 : Int)) = false →
 (decide (x.snd.snd.fst.snd.fst < (0 : Int)) = true → (1 : Int) = wrongW x.fst x.snd.fst x.snd.snd.fst) ∧
 (decide (x.snd.snd.fst.snd.fst < (0 : Int)) = false →
 (decide (x.snd.snd.fst.snd.fst > x.fst) = true → (1 : Int) = wrongW x.fst x.snd.fst x.snd.snd.fst) ∧
 (decide (x.snd.snd.fst.snd.fst > x.fst) = false →
 ((x.snd.snd.fst.snd.snd.fst != (0 : Int)) = true →
 ((x.snd.snd.fst.snd.snd.fst != (1 : Int)) = true →
 (1 : Int) = wrongW x.fst x.snd.fst x.snd.snd.fst) ∧
 ((x.snd.snd.fst.snd.snd.fst != (1 : Int)) = false →
 ByteArray.size x.snd.snd.fst.snd.snd.snd.snd.fst ≤ (1000000000 : Nat) ∧
 (decide ((↑(List.length (decodeL x.snd.snd.fst.snd.snd.snd.snd.fst)) : Int) > (40 : Int)) =
 true →
 (2 : Int) = wrongW x.fst x.snd.fst x.snd.snd.fst) ∧
 (decide ((↑(List.length (decodeL x.snd.snd.fst.snd.snd.snd.snd.fst)) : Int) > (40 : Int)) =
 false →
 (((↑(List.length (decodeL x.snd.snd.fst.snd.snd.snd.snd.fst)) : Int) == (0 : Int)) =
 true →
 (4 : Int) = wrongW x.fst x.snd.fst x.snd.snd.fst) ∧
 (((↑(List.length (decodeL x.snd.snd.fst.snd.snd.snd.snd.fst)) : Int) == (0 : Int)) =
 false →
 (((0 : Int) = (0 : Int) ∧
 x.snd.fst = x.snd.fst ∧
 True ∧
 decodeL x.snd.snd.fst.snd.snd.snd.snd.fst =
 decodeL x.snd.snd.fst.snd.snd.snd.snd.fst ∧
 (↑(List.length (decodeL x.snd.snd.fst.snd.snd.snd.snd.fst)) : Int) =
 (↑(List.length (decodeL x.snd.snd.fst.snd.snd.snd.snd.fst)) : Int)) ∧
 x.snd.snd.fst.fst = x.snd.snd.fst.fst ∧
 x.snd.snd.fst.snd.fst = x.snd.snd.fst.snd.fst ∧
 x.snd.snd.fst.snd.snd.fst = x.snd.snd.fst.snd.snd.fst ∧
 x.snd.snd.fst.snd.snd.snd.fst = x.snd.snd.fst.snd.snd.snd.fst ∧
 x.snd.snd.fst.snd.snd.snd.snd.fst = x.snd.snd.fst.snd.snd.snd.snd.fst) ∧
 ∃ (Z : Int × Unit → Prop),
 ∃ (μ : Int × Unit → Nat),
 Z ((0 : Int), ()) ∧
 ∀ (a : Int),
 Z (a, ()) →
 (decide
 (a <
 (↑(List.length (decodeL x.snd.snd.fst.snd.snd.snd.snd.fst)) :
 Int)) =
 true →
 ((0 : Int) ≤ a ∧
 a <
 (↑(List.length (decodeL x.snd.snd.fst.snd.snd.snd.snd.fst)) :
 Int)) ∧
 ((List.getD (decodeL x.snd.snd.fst.snd.snd.snd.snd.fst)
 (Int.toNat a) (Ty.dflt t21) ==
 (10 : Int)) =
 true →
 (4 : Int) = wrongW x.fst x.snd.fst x.snd.snd.fst) ∧
 ((List.getD (decodeL x.snd.snd.fst.snd.snd.snd.snd.fst)
 (Int.toNat a) (Ty.dflt t21) ==
 (10 : Int)) =
 false →
 ((IntKind.wrap IntKind.i64 (a + (1 : Int)) =
 IntKind.wrap IntKind.i64 (a + (1 : Int)) ∧
 x.snd.fst = x.snd.fst ∧
 True ∧
 decodeL x.snd.snd.fst.snd.snd.snd.snd.fst =
 decodeL x.snd.snd.fst.snd.snd.snd.snd.fst ∧
 (↑(List.length
 (decodeL
 x.snd.snd.fst.snd.snd.snd.snd.fst)) :
 Int) =
 (↑(List.length
 (decodeL
 x.snd.snd.fst.snd.snd.snd.snd.fst)) :
 Int)) ∧
 x.snd.snd.fst.fst = x.snd.snd.fst.fst ∧
 x.snd.snd.fst.snd.fst = x.snd.snd.fst.snd.fst ∧
 x.snd.snd.fst.snd.snd.fst = x.snd.snd.fst.snd.snd.fst ∧
 x.snd.snd.fst.snd.snd.snd.fst =
 x.snd.snd.fst.snd.snd.snd.fst ∧
 x.snd.snd.fst.snd.snd.snd.snd.fst =
 x.snd.snd.fst.snd.snd.snd.snd.fst) ∧
 Z (IntKind.wrap IntKind.i64 (a + (1 : Int)), ()) ∧
 μ (IntKind.wrap IntKind.i64 (a + (1 : Int)), ()) <
 μ (a, ()))) ∧
 (decide
 (a <
 (↑(List.length (decodeL x.snd.snd.fst.snd.snd.snd.snd.fst)) :
 Int)) =
 false →
 (((0 : Int) = (0 : Int) ∧
 True ∧
 x.snd.fst = x.snd.fst ∧
 (↑(List.length x.snd.fst) : Int) =
 (↑(List.length x.snd.fst) : Int)) ∧
 x.snd.snd.fst.fst = x.snd.snd.fst.fst ∧
 x.snd.snd.fst.snd.fst = x.snd.snd.fst.snd.fst ∧
 x.snd.snd.fst.snd.snd.fst = x.snd.snd.fst.snd.snd.fst ∧
 x.snd.snd.fst.snd.snd.snd.fst =
 x.snd.snd.fst.snd.snd.snd.fst ∧
 x.snd.snd.fst.snd.snd.snd.snd.fst =
 x.snd.snd.fst.snd.snd.snd.snd.fst) ∧
 ∃ (Z : Int × Unit → Prop),
 ∃ (μ : Int × Unit → Nat),
 Z ((0 : Int), ()) ∧
 ∀ (a : Int),
 Z (a, ()) →
 (decide (a < (↑(List.length x.snd.fst) : Int)) = true →
 ((0 : Int) ≤ a ∧
 a < (↑(List.length x.snd.fst) : Int)) ∧
 (((List.getD x.snd.fst (Int.toNat a)
 (Ty.dflt t42)).fst ==
 x.snd.snd.fst.fst) =
 true →
 (8 : Int) =
 wrongW x.fst x.snd.fst x.snd.snd.fst) ∧
 (((List.getD x.snd.fst (Int.toNat a)
 (Ty.dflt t42)).fst ==
 x.snd.snd.fst.fst) =
 false →
 ((IntKind.wrap IntKind.i64 (a + (1 : Int)) =
 IntKind.wrap IntKind.i64
 (a + (1 : Int)) ∧
 True ∧
 x.snd.fst = x.snd.fst ∧
 (↑(List.length x.snd.fst) : Int) =
 (↑(List.length x.snd.fst) : Int)) ∧
 x.snd.snd.fst.fst = x.snd.snd.fst.fst ∧
 x.snd.snd.fst.snd.fst =
 x.snd.snd.fst.snd.fst ∧
 x.snd.snd.fst.snd.snd.fst =
 x.snd.snd.fst.snd.snd.fst ∧
 x.snd.snd.fst.snd.snd.snd.fst =
 x.snd.snd.fst.snd.snd.snd.fst ∧
 x.snd.snd.fst.snd.snd.snd.snd.fst =
 x.snd.snd.fst.snd.snd.snd.snd.fst) ∧
 Z
 (IntKind.wrap IntKind.i64 (a + (1 : Int)),
 ()) ∧
 μ
 (IntKind.wrap IntKind.i64
 (a + (1 : Int)),
 ()) <
 μ (a, ()))) ∧
 (decide (a < (↑(List.length x.snd.fst) : Int)) = false →
 (0 : Int) =
 wrongW x.fst x.snd.fst x.snd.snd.fst)))))) ∧
 ((x.snd.snd.fst.snd.snd.fst != (0 : Int)) = false →
 ByteArray.size x.snd.snd.fst.snd.snd.snd.snd.fst ≤ (1000000000 : Nat) ∧
 (decide ((↑(List.length (decodeL x.snd.snd.fst.snd.snd.snd.snd.fst)) : Int) > (40 : Int)) = true →
 (2 : Int) = wrongW x.fst x.snd.fst x.snd.snd.fst) ∧
 (decide ((↑(List.length (decodeL x.snd.snd.fst.snd.snd.snd.snd.fst)) : Int) > (40 : Int)) =
 false →
 (((↑(List.length (decodeL x.snd.snd.fst.snd.snd.snd.snd.fst)) : Int) == (0 : Int)) = true →
 (4 : Int) = wrongW x.fst x.snd.fst x.snd.snd.fst) ∧
 (((↑(List.length (decodeL x.snd.snd.fst.snd.snd.snd.snd.fst)) : Int) == (0 : Int)) = false →
 (((0 : Int) = (0 : Int) ∧
 x.snd.fst = x.snd.fst ∧
 True ∧
 decodeL x.snd.snd.fst.snd.snd.snd.snd.fst =
 decodeL x.snd.snd.fst.snd.snd.snd.snd.fst ∧
 (↑(List.length (decodeL x.snd.snd.fst.snd.snd.snd.snd.fst)) : Int) =
 (↑(List.length (decodeL x.snd.snd.fst.snd.snd.snd.snd.fst)) : Int)) ∧
 x.snd.snd.fst.fst = x.snd.snd.fst.fst ∧
 x.snd.snd.fst.snd.fst = x.snd.snd.fst.snd.fst ∧
 x.snd.snd.fst.snd.snd.fst = x.snd.snd.fst.snd.snd.fst ∧
 x.snd.snd.fst.snd.snd.snd.fst = x.snd.snd.fst.snd.snd.snd.fst ∧
 x.snd.snd.fst.snd.snd.snd.snd.fst = x.snd.snd.fst.snd.snd.snd.snd.fst) ∧
 ∃ (Z : Int × Unit → Prop),
 ∃ (μ : Int × Unit → Nat),
 Z ((0 : Int), ()) ∧
 ∀ (a : Int),
 Z (a, ()) →
 (decide
 (a <
 (↑(List.length (decodeL x.snd.snd.fst.snd.snd.snd.snd.fst)) :
 Int)) =
 true →
 ((0 : Int) ≤ a ∧
 a <
 (↑(List.length (decodeL x.snd.snd.fst.snd.snd.snd.snd.fst)) :
 Int)) ∧
 ((List.getD (decodeL x.snd.snd.fst.snd.snd.snd.snd.fst) (Int.toNat a)
 (Ty.dflt t21) ==
 (10 : Int)) =
 true →
 (4 : Int) = wrongW x.fst x.snd.fst x.snd.snd.fst) ∧
 ((List.getD (decodeL x.snd.snd.fst.snd.snd.snd.snd.fst) (Int.toNat a)
 (Ty.dflt t21) ==
 (10 : Int)) =
 false →
 ((IntKind.wrap IntKind.i64 (a + (1 : Int)) =
 IntKind.wrap IntKind.i64 (a + (1 : Int)) ∧
 x.snd.fst = x.snd.fst ∧
 True ∧
 decodeL x.snd.snd.fst.snd.snd.snd.snd.fst =
 decodeL x.snd.snd.fst.snd.snd.snd.snd.fst ∧
 (↑(List.length
 (decodeL x.snd.snd.fst.snd.snd.snd.snd.fst)) :
 Int) =
 (↑(List.length
 (decodeL x.snd.snd.fst.snd.snd.snd.snd.fst)) :
 Int)) ∧
 x.snd.snd.fst.fst = x.snd.snd.fst.fst ∧
 x.snd.snd.fst.snd.fst = x.snd.snd.fst.snd.fst ∧
 x.snd.snd.fst.snd.snd.fst = x.snd.snd.fst.snd.snd.fst ∧
 x.snd.snd.fst.snd.snd.snd.fst =
 x.snd.snd.fst.snd.snd.snd.fst ∧
 x.snd.snd.fst.snd.snd.snd.snd.fst =
 x.snd.snd.fst.snd.snd.snd.snd.fst) ∧
 Z (IntKind.wrap IntKind.i64 (a + (1 : Int)), ()) ∧
 μ (IntKind.wrap IntKind.i64 (a + (1 : Int)), ()) < μ (a, ()))) ∧
 (decide
 (a <
 (↑(List.length (decodeL x.snd.snd.fst.snd.snd.snd.snd.fst)) :
 Int)) =
 false →
 (((0 : Int) = (0 : Int) ∧
 True ∧
 x.snd.fst = x.snd.fst ∧
 (↑(List.length x.snd.fst) : Int) =
 (↑(List.length x.snd.fst) : Int)) ∧
 x.snd.snd.fst.fst = x.snd.snd.fst.fst ∧
 x.snd.snd.fst.snd.fst = x.snd.snd.fst.snd.fst ∧
 x.snd.snd.fst.snd.snd.fst = x.snd.snd.fst.snd.snd.fst ∧
 x.snd.snd.fst.snd.snd.snd.fst = x.snd.snd.fst.snd.snd.snd.fst ∧
 x.snd.snd.fst.snd.snd.snd.snd.fst =
 x.snd.snd.fst.snd.snd.snd.snd.fst) ∧
 ∃ (Z : Int × Unit → Prop),
 ∃ (μ : Int × Unit → Nat),
 Z ((0 : Int), ()) ∧
 ∀ (a : Int),
 Z (a, ()) →
 (decide (a < (↑(List.length x.snd.fst) : Int)) = true →
 ((0 : Int) ≤ a ∧ a < (↑(List.length x.snd.fst) : Int)) ∧
 (((List.getD x.snd.fst (Int.toNat a)
 (Ty.dflt t42)).fst ==
 x.snd.snd.fst.fst) =
 true →
 (8 : Int) = wrongW x.fst x.snd.fst x.snd.snd.fst) ∧
 (((List.getD x.snd.fst (Int.toNat a)
 (Ty.dflt t42)).fst ==
 x.snd.snd.fst.fst) =
 false →
 ((IntKind.wrap IntKind.i64 (a + (1 : Int)) =
 IntKind.wrap IntKind.i64 (a + (1 : Int)) ∧
 True ∧
 x.snd.fst = x.snd.fst ∧
 (↑(List.length x.snd.fst) : Int) =
 (↑(List.length x.snd.fst) : Int)) ∧
 x.snd.snd.fst.fst = x.snd.snd.fst.fst ∧
 x.snd.snd.fst.snd.fst =
 x.snd.snd.fst.snd.fst ∧
 x.snd.snd.fst.snd.snd.fst =
 x.snd.snd.fst.snd.snd.fst ∧
 x.snd.snd.fst.snd.snd.snd.fst =
 x.snd.snd.fst.snd.snd.snd.fst ∧
 x.snd.snd.fst.snd.snd.snd.snd.fst =
 x.snd.snd.fst.snd.snd.snd.snd.fst) ∧
 Z (IntKind.wrap IntKind.i64 (a + (1 : Int)), ()) ∧
 μ
 (IntKind.wrap IntKind.i64 (a + (1 : Int)),
 ()) <
 μ (a, ()))) ∧
 (decide (a < (↑(List.length x.snd.fst) : Int)) = false →
 (0 : Int) = wrongW x.fst x.snd.fst x.snd.snd.fst))))))))
theorem vcEq27 : fnVC E27 Tryd.f27 (bodyOf Tryd.f27) cRefWrong = vc27 := by kernel_rfl
/- fn 28 -/
def hs28 : List (Nat × Nat × Hint) := [(0, 3, ⟨[.slot 3 t9, .slot 9 t3], [7, 8], [], []⟩)]
def nm28 : List Nat := [3000000025]
noncomputable def E28 : Env := env tab [(48, cUSize), (49, cOne)] [] gl hs28 nm28
def vc28 : Prop :=
 ∀ (x : List Int × Unit),
 List.length x.fst ≤ (1000000000 : Nat) →
 ((0 : Int) = (0 : Int) ∧
 (ByteArray.mk #[]) = (ByteArray.mk #[]) ∧
 x.fst = x.fst ∧ (↑(List.length x.fst) : Int) = (↑(List.length x.fst) : Int)) ∧
 ∃ (Z : ByteArray × Int × Unit → Prop),
 ∃ (μ : ByteArray × Int × Unit → Nat),
 Z ((ByteArray.mk #[]), (0 : Int), ()) ∧
 ∀ (a : ByteArray) (a_1 : Int),
 Z (a, a_1, ()) →
 (decide (a_1 < (↑(List.length x.fst) : Int)) = true →
 ((0 : Int) ≤ a_1 ∧ a_1 < (↑(List.length x.fst) : Int)) ∧
 True ∧
 ((uSize (List.getD x.fst (Int.toNat a_1) (Ty.dflt t21)) == (0 : Int)) = true →
 ((0 : Int) ≤ (65533 : Int) ∧
 (65533 : Int) ≤ (1114111 : Int) ∧ uSize (65533 : Int) = (3 : Int)) ∧
 ByteArray.size a + ByteArray.size (bytesOf (uBytes (65533 : Int) (3 : Int))) ≤
 (9223372036854775807 : Nat) ∧
 (IntKind.wrap IntKind.i64 (a_1 + (1 : Int)) =
 IntKind.wrap IntKind.i64 (a_1 + (1 : Int)) ∧
 a ++ bytesOf (uBytes (65533 : Int) (3 : Int)) =
 a ++ bytesOf (uBytes (65533 : Int) (3 : Int)) ∧
 x.fst = x.fst ∧ (↑(List.length x.fst) : Int) = (↑(List.length x.fst) : Int)) ∧
 Z
 (a ++ bytesOf (uBytes (65533 : Int) (3 : Int)),
 IntKind.wrap IntKind.i64 (a_1 + (1 : Int)), ()) ∧
 μ
 (a ++ bytesOf (uBytes (65533 : Int) (3 : Int)),
 IntKind.wrap IntKind.i64 (a_1 + (1 : Int)), ()) <
 μ (a, a_1, ())) ∧
 ((uSize (List.getD x.fst (Int.toNat a_1) (Ty.dflt t21)) == (0 : Int)) = false →
 ((0 : Int) ≤ List.getD x.fst (Int.toNat a_1) (Ty.dflt t21) ∧
 List.getD x.fst (Int.toNat a_1) (Ty.dflt t21) ≤ (1114111 : Int) ∧
 uSize (List.getD x.fst (Int.toNat a_1) (Ty.dflt t21)) =
 uSize (List.getD x.fst (Int.toNat a_1) (Ty.dflt t21))) ∧
 ByteArray.size a +
 ByteArray.size
 (bytesOf
 (uBytes (List.getD x.fst (Int.toNat a_1) (Ty.dflt t21))
 (uSize (List.getD x.fst (Int.toNat a_1) (Ty.dflt t21))))) ≤
 (9223372036854775807 : Nat) ∧
 (IntKind.wrap IntKind.i64 (a_1 + (1 : Int)) =
 IntKind.wrap IntKind.i64 (a_1 + (1 : Int)) ∧
 a ++
 bytesOf
 (uBytes (List.getD x.fst (Int.toNat a_1) (Ty.dflt t21))
 (uSize (List.getD x.fst (Int.toNat a_1) (Ty.dflt t21)))) =
 a ++
 bytesOf
 (uBytes (List.getD x.fst (Int.toNat a_1) (Ty.dflt t21))
 (uSize (List.getD x.fst (Int.toNat a_1) (Ty.dflt t21)))) ∧
 x.fst = x.fst ∧ (↑(List.length x.fst) : Int) = (↑(List.length x.fst) : Int)) ∧
 Z
 (a ++
 bytesOf
 (uBytes (List.getD x.fst (Int.toNat a_1) (Ty.dflt t21))
 (uSize (List.getD x.fst (Int.toNat a_1) (Ty.dflt t21)))),
 IntKind.wrap IntKind.i64 (a_1 + (1 : Int)), ()) ∧
 μ
 (a ++
 bytesOf
 (uBytes (List.getD x.fst (Int.toNat a_1) (Ty.dflt t21))
 (uSize (List.getD x.fst (Int.toNat a_1) (Ty.dflt t21)))),
 IntKind.wrap IntKind.i64 (a_1 + (1 : Int)), ()) <
 μ (a, a_1, ()))) ∧
 (decide (a_1 < (↑(List.length x.fst) : Int)) = false → a = encode x.fst)
theorem vcEq28 : fnVC E28 Tryd.f28 (bodyOf Tryd.f28) cREncode = vc28 := by kernel_rfl
/- fn 29 -/
def hs29 : List (Nat × Nat × Hint) := [(0, 3, ⟨[.rowS 3 900000003 t21 21, .slot 4 t3], [0], [], []⟩)]
def nm29 : List Nat := [3000000025]
noncomputable def E29 : Env := env tab [(50, cRStep)] [] gl hs29 nm29
def vc29 : Prop :=
 ∀ (x : ByteArray × Unit),
 ByteArray.size x.fst ≤ (1000000000 : Nat) →
 (((0 : Int) = (0 : Int) ∧ True ∧ x.fst = x.fst) ∧ True ∧ True) ∧
 ∃ (Z : List Int × Int × Unit → Prop),
 ∃ (μ : List Int × Int × Unit → Nat),
 Z ([], (0 : Int), ()) ∧
 ∀ (a : List Int) (a_1 : Int),
 Z (a, a_1, ()) →
 (decide (a_1 < (↑(ByteArray.size x.fst) : Int)) = true →
 ByteArray.size x.fst ≤ maxLen ∧
 (List.length a + List.length [(uStep x.fst a_1).fst]) * (4 : Nat) ≤ (140737488355328 : Nat) ∧
 List.length a + List.length [(uStep x.fst a_1).fst] ≤ maxLen ∧
 ((IntKind.wrap IntKind.i64 (a_1 + (uStep x.fst a_1).snd.fst) =
 IntKind.wrap IntKind.i64 (a_1 + (uStep x.fst a_1).snd.fst) ∧
 True ∧ x.fst = x.fst) ∧
 a ++ [(uStep x.fst a_1).fst] = a ++ [(uStep x.fst a_1).fst] ∧ True) ∧
 Z
 (a ++ [(uStep x.fst a_1).fst],
 IntKind.wrap IntKind.i64 (a_1 + (uStep x.fst a_1).snd.fst), ()) ∧
 μ
 (a ++ [(uStep x.fst a_1).fst],
 IntKind.wrap IntKind.i64 (a_1 + (uStep x.fst a_1).snd.fst), ()) <
 μ (a, a_1, ())) ∧
 (decide (a_1 < (↑(ByteArray.size x.fst) : Int)) = false → a = decodeL x.fst)
theorem vcEq29 : fnVC E29 Tryd.f29 (bodyOf Tryd.f29) cRDecode = vc29 := by kernel_rfl
/- fn 30 -/
def hs30 : List (Nat × Nat × Hint) := []
def nm30 : List Nat := [3000000025]
noncomputable def E30 : Env := env tab [] [] gl hs30 nm30
def vc30 : Prop :=
 ∀ (x : Inl × Inl × Unit),
 True →
 ((x.fst.snd.fst != x.snd.fst.snd.fst) = true →
 decide (x.fst.snd.fst < x.snd.fst.snd.fst) = aheadI x.fst x.snd.fst) ∧
 ((x.fst.snd.fst != x.snd.fst.snd.fst) = false →
 ((x.fst.snd.snd.snd.fst != x.snd.fst.snd.snd.snd.fst) = true →
 decide (x.fst.snd.snd.snd.fst < x.snd.fst.snd.snd.snd.fst) = aheadI x.fst x.snd.fst) ∧
 ((x.fst.snd.snd.snd.fst != x.snd.fst.snd.snd.snd.fst) = false →
 decide (x.fst.fst < x.snd.fst.fst) = aheadI x.fst x.snd.fst))
theorem vcEq30 : fnVC E30 Tryd.f30 (bodyOf Tryd.f30) cAhead = vc30 := by kernel_rfl
/- fn 33 -/
def hs33 : List (Nat × Nat × Hint) := [(0, 3, ⟨[.slot 5 t3, .slot 10 t3], [0, 8, 9], [], []⟩)]
def nm33 : List Nat := [3000000025]
noncomputable def E33 : Env := env tab [] [] gl hs33 nm33
def vc33 : Prop :=
 ∀ (x : Int × List Int × Unit),
 List.length x.snd.fst ≤ maxLen →
 ((0 : Int) = (0 : Int) ∧
 (0 : Int) = (0 : Int) ∧
 x.fst = x.fst ∧ x.snd.fst = x.snd.fst ∧ (↑(List.length x.snd.fst) : Int) = (↑(List.length x.snd.fst) : Int)) ∧
 ∃ (Z : Int × Int × Unit → Prop),
 ∃ (μ : Int × Int × Unit → Nat),
 Z ((0 : Int), (0 : Int), ()) ∧
 ∀ (a a_1 : Int),
 Z (a, a_1, ()) →
 (decide (a_1 < (↑(List.length x.snd.fst) : Int)) = true →
 ((0 : Int) ≤ a_1 ∧ a_1 < (↑(List.length x.snd.fst) : Int)) ∧
 ((List.getD x.snd.fst (Int.toNat a_1) (Ty.dflt t3) == x.fst) = true →
 (IntKind.wrap IntKind.i64 (a_1 + (1 : Int)) = IntKind.wrap IntKind.i64 (a_1 + (1 : Int)) ∧
 IntKind.wrap IntKind.i64 (a + (1 : Int)) = IntKind.wrap IntKind.i64 (a + (1 : Int)) ∧
 x.fst = x.fst ∧
 x.snd.fst = x.snd.fst ∧
 (↑(List.length x.snd.fst) : Int) = (↑(List.length x.snd.fst) : Int)) ∧
 Z
 (IntKind.wrap IntKind.i64 (a + (1 : Int)), IntKind.wrap IntKind.i64 (a_1 + (1 : Int)),
 ()) ∧
 μ
 (IntKind.wrap IntKind.i64 (a + (1 : Int)), IntKind.wrap IntKind.i64 (a_1 + (1 : Int)),
 ()) <
 μ (a, a_1, ())) ∧
 ((List.getD x.snd.fst (Int.toNat a_1) (Ty.dflt t3) == x.fst) = false →
 (IntKind.wrap IntKind.i64 (a_1 + (1 : Int)) = IntKind.wrap IntKind.i64 (a_1 + (1 : Int)) ∧
 a = a ∧
 x.fst = x.fst ∧
 x.snd.fst = x.snd.fst ∧
 (↑(List.length x.snd.fst) : Int) = (↑(List.length x.snd.fst) : Int)) ∧
 Z (a, IntKind.wrap IntKind.i64 (a_1 + (1 : Int)), ()) ∧
 μ (a, IntKind.wrap IntKind.i64 (a_1 + (1 : Int)), ()) < μ (a, a_1, ()))) ∧
 (decide (a_1 < (↑(List.length x.snd.fst) : Int)) = false → a = timesI x.fst x.snd.fst)
theorem vcEq33 : fnVC E33 Tryd.f33 (bodyOf Tryd.f33) cTimes = vc33 := by kernel_rfl
/- fn 34 -/
def hs34 : List (Nat × Nat × Hint) := []
def nm34 : List Nat := [1000000005, 3000000025]
noncomputable def E34 : Env := env tab [] [] gl hs34 nm34
def vc34 : Prop :=
 ∀ (x : List Inl × Unit),
 List.length x.fst ≤ (10000 : Nat) →
 ∀ (c : Bool),
 (c = true → List.length x.fst = (0 : Nat)) →
 (c = true → [] = x.fst) ∧
 (c = false →
 ((0 : Nat) + List.length x.fst) * (48 : Nat) ≤ (140737488355328 : Nat) ∧
 (0 : Nat) + List.length x.fst ≤ maxLen ∧ [] ++ x.fst = x.fst)
theorem vcEq34 : fnVC E34 Tryd.f34 (bodyOf Tryd.f34) cClone = vc34 := by kernel_rfl
/- fn 35 -/
def hs35 : List (Nat × Nat × Hint) := [(0, 3, ⟨[.slot 9 t3, .cell 3 0 t3, .cell 3 1 t3, .cell 3 2 t3, .cell 3 3 t3], [3, 7, 8], [3], []⟩)]
def nm35 : List Nat := [3000000025]
noncomputable def E35 : Env := env tab [(52, cWithin), (53, cSize)] [] gl hs35 nm35
def vc35 : Prop :=
 ∀ (x : List Chg × Unit),
 List.length x.fst ≤ maxLen →
 (((0 : Int) = (0 : Int) ∧ True ∧ x.fst = x.fst ∧ (↑(List.length x.fst) : Int) = (↑(List.length x.fst) : Int)) ∧
 (0 : Int) = (0 : Int) ∧ (0 : Int) = (0 : Int) ∧ (0 : Int) = (0 : Int) ∧ (0 : Int) = (0 : Int)) ∧
 ∃ (Z : Int × Int × Int × Int × Int × Unit → Prop),
 ∃ (μ : Int × Int × Int × Int × Int × Unit → Nat),
 Z ((0 : Int), (0 : Int), (0 : Int), (0 : Int), (0 : Int), ()) ∧
 ∀ (a a_1 a_2 a_3 a_4 : Int),
 Z (a, a_1, a_2, a_3, a_4, ()) →
 (decide (a < (↑(List.length x.fst) : Int)) = true →
 ((0 : Int) ≤ a ∧ a < (↑(List.length x.fst) : Int)) ∧
 True ∧
 ((!within (List.getD x.fst (Int.toNat a) (Ty.dflt t79)).fst) = true → false = normal x.fst) ∧
 ((!within (List.getD x.fst (Int.toNat a) (Ty.dflt t79)).fst) = false →
 True ∧
 ((!within (List.getD x.fst (Int.toNat a) (Ty.dflt t79)).snd.fst) = true →
 false = normal x.fst) ∧
 ((!within (List.getD x.fst (Int.toNat a) (Ty.dflt t79)).snd.fst) = false →
 True ∧
 True ∧
 ((IntKind.wrap IntKind.i64
 (size (List.getD x.fst (Int.toNat a) (Ty.dflt t79)).fst +
 size (List.getD x.fst (Int.toNat a) (Ty.dflt t79)).snd.fst) ==
 (0 : Int)) =
 true →
 false = normal x.fst) ∧
 ((IntKind.wrap IntKind.i64
 (size (List.getD x.fst (Int.toNat a) (Ty.dflt t79)).fst +
 size (List.getD x.fst (Int.toNat a) (Ty.dflt t79)).snd.fst) ==
 (0 : Int)) =
 false →
 ((IntKind.wrap IntKind.i64
 ((List.getD x.fst (Int.toNat a) (Ty.dflt t79)).fst.fst - a_2) !=
 IntKind.wrap IntKind.i64
 ((List.getD x.fst (Int.toNat a) (Ty.dflt t79)).snd.fst.fst - a_4)) =
 true →
 false = normal x.fst) ∧
 ((IntKind.wrap IntKind.i64
 ((List.getD x.fst (Int.toNat a) (Ty.dflt t79)).fst.fst - a_2) !=
 IntKind.wrap IntKind.i64
 ((List.getD x.fst (Int.toNat a) (Ty.dflt t79)).snd.fst.fst - a_4)) =
 false →
 (decide
 (IntKind.wrap IntKind.i64
 ((List.getD x.fst (Int.toNat a) (Ty.dflt t79)).fst.fst -
 a_2) <
 (0 : Int)) =
 true →
 false = normal x.fst) ∧
 (decide
 (IntKind.wrap IntKind.i64
 ((List.getD x.fst (Int.toNat a) (Ty.dflt t79)).fst.fst -
 a_2) <
 (0 : Int)) =
 false →
 ((IntKind.wrap IntKind.i64
 ((List.getD x.fst (Int.toNat a) (Ty.dflt t79)).fst.fst -
 a_2) ==
 (0 : Int)) =
 true →
 (decide (a > (0 : Int)) = true → false = normal x.fst) ∧
 (decide (a > (0 : Int)) = false →
 ((IntKind.wrap IntKind.i64 (a + (1 : Int)) =
 IntKind.wrap IntKind.i64 (a + (1 : Int)) ∧
 True ∧
 x.fst = x.fst ∧
 (↑(List.length x.fst) : Int) =
 (↑(List.length x.fst) : Int)) ∧
 (List.getD x.fst (Int.toNat a) (Ty.dflt t79)).fst.fst =
 (List.getD x.fst (Int.toNat a)
 (Ty.dflt t79)).fst.fst ∧
 (List.getD x.fst (Int.toNat a)
 (Ty.dflt t79)).fst.snd.fst =
 (List.getD x.fst (Int.toNat a)
 (Ty.dflt t79)).fst.snd.fst ∧
 (List.getD x.fst (Int.toNat a)
 (Ty.dflt t79)).snd.fst.fst =
 (List.getD x.fst (Int.toNat a)
 (Ty.dflt t79)).snd.fst.fst ∧
 (List.getD x.fst (Int.toNat a)
 (Ty.dflt t79)).snd.fst.snd.fst =
 (List.getD x.fst (Int.toNat a)
 (Ty.dflt t79)).snd.fst.snd.fst) ∧
 Z
 (IntKind.wrap IntKind.i64 (a + (1 : Int)),
 (List.getD x.fst (Int.toNat a) (Ty.dflt t79)).fst.fst,
 (List.getD x.fst (Int.toNat a)
 (Ty.dflt t79)).fst.snd.fst,
 (List.getD x.fst (Int.toNat a)
 (Ty.dflt t79)).snd.fst) ∧
 μ
 (IntKind.wrap IntKind.i64 (a + (1 : Int)),
 (List.getD x.fst (Int.toNat a)
 (Ty.dflt t79)).fst.fst,
 (List.getD x.fst (Int.toNat a)
 (Ty.dflt t79)).fst.snd.fst,
 (List.getD x.fst (Int.toNat a)
 (Ty.dflt t79)).snd.fst) <
 μ (a, a_1, a_2, a_3, a_4, ()))) ∧
 ((IntKind.wrap IntKind.i64
 ((List.getD x.fst (Int.toNat a) (Ty.dflt t79)).fst.fst -
 a_2) ==
 (0 : Int)) =
 false →
 ((IntKind.wrap IntKind.i64 (a + (1 : Int)) =
 IntKind.wrap IntKind.i64 (a + (1 : Int)) ∧
 True ∧
 x.fst = x.fst ∧
 (↑(List.length x.fst) : Int) =
 (↑(List.length x.fst) : Int)) ∧
 (List.getD x.fst (Int.toNat a) (Ty.dflt t79)).fst.fst =
 (List.getD x.fst (Int.toNat a) (Ty.dflt t79)).fst.fst ∧
 (List.getD x.fst (Int.toNat a) (Ty.dflt t79)).fst.snd.fst =
 (List.getD x.fst (Int.toNat a)
 (Ty.dflt t79)).fst.snd.fst ∧
 (List.getD x.fst (Int.toNat a)
 (Ty.dflt t79)).snd.fst.fst =
 (List.getD x.fst (Int.toNat a)
 (Ty.dflt t79)).snd.fst.fst ∧
 (List.getD x.fst (Int.toNat a)
 (Ty.dflt t79)).snd.fst.snd.fst =
 (List.getD x.fst (Int.toNat a)
 (Ty.dflt t79)).snd.fst.snd.fst) ∧
 Z
 (IntKind.wrap IntKind.i64 (a + (1 : Int)),
 (List.getD x.fst (Int.toNat a) (Ty.dflt t79)).fst.fst,
 (List.getD x.fst (Int.toNat a) (Ty.dflt t79)).fst.snd.fst,
 (List.getD x.fst (Int.toNat a) (Ty.dflt t79)).snd.fst) ∧
 μ
 (IntKind.wrap IntKind.i64 (a + (1 : Int)),
 (List.getD x.fst (Int.toNat a) (Ty.dflt t79)).fst.fst,
 (List.getD x.fst (Int.toNat a)
 (Ty.dflt t79)).fst.snd.fst,
 (List.getD x.fst (Int.toNat a) (Ty.dflt t79)).snd.fst) <
 μ (a, a_1, a_2, a_3, a_4, ())))))))) ∧
 (decide (a < (↑(List.length x.fst) : Int)) = false → true = normal x.fst)
theorem vcEq35 : fnVC E35 Tryd.f35 (bodyOf Tryd.f35) cNormal = vc35 := by kernel_rfl
/- fn 36 -/
def hs36 : List (Nat × Nat × Hint) := [(0, 3, ⟨[.slot 3 t3, .slot 8 t3], [6, 7], [], []⟩)]
def nm36 : List Nat := [3000000025]
noncomputable def E36 : Env := env tab [(53, cSize)] [] gl hs36 nm36
def vc36 : Prop :=
 ∀ (x : List Chg × Unit),
 List.length x.fst ≤ maxLen →
 ((0 : Int) = (0 : Int) ∧
 (0 : Int) = (0 : Int) ∧ x.fst = x.fst ∧ (↑(List.length x.fst) : Int) = (↑(List.length x.fst) : Int)) ∧
 ∃ (Z : Int × Int × Unit → Prop),
 ∃ (μ : Int × Int × Unit → Nat),
 Z ((0 : Int), (0 : Int), ()) ∧
 ∀ (a a_1 : Int),
 Z (a, a_1, ()) →
 (decide (a_1 < (↑(List.length x.fst) : Int)) = true →
 ((0 : Int) ≤ a_1 ∧ a_1 < (↑(List.length x.fst) : Int)) ∧
 True ∧
 True ∧
 (IntKind.wrap IntKind.i64 (a_1 + (1 : Int)) = IntKind.wrap IntKind.i64 (a_1 + (1 : Int)) ∧
 IntKind.wrap IntKind.i64
 (a +
 IntKind.wrap IntKind.i64
 (size (List.getD x.fst (Int.toNat a_1) (Ty.dflt t79)).snd.fst -
 size (List.getD x.fst (Int.toNat a_1) (Ty.dflt t79)).fst)) =
 IntKind.wrap IntKind.i64
 (a +
 IntKind.wrap IntKind.i64
 (size (List.getD x.fst (Int.toNat a_1) (Ty.dflt t79)).snd.fst -
 size (List.getD x.fst (Int.toNat a_1) (Ty.dflt t79)).fst)) ∧
 x.fst = x.fst ∧ (↑(List.length x.fst) : Int) = (↑(List.length x.fst) : Int)) ∧
 Z
 (IntKind.wrap IntKind.i64
 (a +
 IntKind.wrap IntKind.i64
 (size (List.getD x.fst (Int.toNat a_1) (Ty.dflt t79)).snd.fst -
 size (List.getD x.fst (Int.toNat a_1) (Ty.dflt t79)).fst)),
 IntKind.wrap IntKind.i64 (a_1 + (1 : Int)), ()) ∧
 μ
 (IntKind.wrap IntKind.i64
 (a +
 IntKind.wrap IntKind.i64
 (size (List.getD x.fst (Int.toNat a_1) (Ty.dflt t79)).snd.fst -
 size (List.getD x.fst (Int.toNat a_1) (Ty.dflt t79)).fst)),
 IntKind.wrap IntKind.i64 (a_1 + (1 : Int)), ()) <
 μ (a, a_1, ())) ∧
 (decide (a_1 < (↑(List.length x.fst) : Int)) = false → a = delta x.fst)
theorem vcEq36 : fnVC E36 Tryd.f36 (bodyOf Tryd.f36) cDelta = vc36 := by kernel_rfl
/- fn 37 -/
def hs37 : List (Nat × Nat × Hint) := [(0, 7, ⟨[.slot 8 t3, .slot 32 t3], [1, 2, 30, 31], [], []⟩)]
def nm37 : List Nat := [3000000025]
noncomputable def E37 : Env := env tab [(35, cNormal)] [] gl hs37 nm37
def vc37 : Prop :=
 ∀ (x : List Chg × Int × Int × Unit),
 List.length x.fst ≤ maxLen →
 List.length x.fst ≤ maxLen ∧
 ((!normal x.fst) = true → ((0 : Int), (4 : Int), ()) = mapP x.fst x.snd.fst x.snd.snd.fst) ∧
 ((!normal x.fst) = false →
 (decide (x.snd.fst < (0 : Int)) = true → ((0 : Int), (1 : Int), ()) = mapP x.fst x.snd.fst x.snd.snd.fst) ∧
 (decide (x.snd.fst < (0 : Int)) = false →
 (decide (x.snd.fst > (1099511627776 : Int)) = true →
 ((0 : Int), (1 : Int), ()) = mapP x.fst x.snd.fst x.snd.snd.fst) ∧
 (decide (x.snd.fst > (1099511627776 : Int)) = false →
 ((x.snd.snd.fst != (0 : Int)) = true →
 ((x.snd.snd.fst != (1 : Int)) = true →
 ((0 : Int), (1 : Int), ()) = mapP x.fst x.snd.fst x.snd.snd.fst) ∧
 ((x.snd.snd.fst != (1 : Int)) = false →
 ((0 : Int) = (0 : Int) ∧
 (0 : Int) = (0 : Int) ∧
 x.snd.fst = x.snd.fst ∧
 x.snd.snd.fst = x.snd.snd.fst ∧
 x.fst = x.fst ∧ (↑(List.length x.fst) : Int) = (↑(List.length x.fst) : Int)) ∧
 ∃ (Z : Int × Int × Unit → Prop),
 ∃ (μ : Int × Int × Unit → Nat),
 Z ((0 : Int), (0 : Int), ()) ∧
 ∀ (a a_1 : Int),
 Z (a, a_1, ()) →
 (decide (a_1 < (↑(List.length x.fst) : Int)) = true →
 ((0 : Int) ≤ a_1 ∧ a_1 < (↑(List.length x.fst) : Int)) ∧
 (decide
 (x.snd.fst <
 (List.getD x.fst (Int.toNat a_1) (Ty.dflt t79)).fst.fst) =
 true →
 (IntKind.wrap IntKind.i64 (x.snd.fst + a), (0 : Int), ()) =
 mapP x.fst x.snd.fst x.snd.snd.fst) ∧
 (decide
 (x.snd.fst <
 (List.getD x.fst (Int.toNat a_1) (Ty.dflt t79)).fst.fst) =
 false →
 (decide
 (x.snd.fst ≤
 (List.getD x.fst (Int.toNat a_1) (Ty.dflt t79)).fst.snd.fst) =
 true →
 ((x.snd.snd.fst == (0 : Int)) = true →
 ((List.getD x.fst (Int.toNat a_1) (Ty.dflt t79)).snd.fst.fst,
 (0 : Int), ()) =
 mapP x.fst x.snd.fst x.snd.snd.fst) ∧
 ((x.snd.snd.fst == (0 : Int)) = false →
 (decide
 (x.snd.fst ≤
 (List.getD x.fst (Int.toNat a_1)
 (Ty.dflt t79)).fst.snd.fst) =
 true →
 ((List.getD x.fst (Int.toNat a_1)
 (Ty.dflt t79)).snd.fst.snd.fst,
 (0 : Int), ()) =
 mapP x.fst x.snd.fst x.snd.snd.fst) ∧
 (decide
 (x.snd.fst ≤
 (List.getD x.fst (Int.toNat a_1)
 (Ty.dflt t79)).fst.snd.fst) =
 false →
 (IntKind.wrap IntKind.i64 (a_1 + (1 : Int)) =
 IntKind.wrap IntKind.i64 (a_1 + (1 : Int)) ∧
 IntKind.wrap IntKind.i64
 ((List.getD x.fst (Int.toNat a_1)
 (Ty.dflt t79)).snd.fst.snd.fst -
 (List.getD x.fst (Int.toNat a_1)
 (Ty.dflt t79)).fst.snd.fst) =
 IntKind.wrap IntKind.i64
 ((List.getD x.fst (Int.toNat a_1)
 (Ty.dflt t79)).snd.fst.snd.fst -
 (List.getD x.fst (Int.toNat a_1)
 (Ty.dflt t79)).fst.snd.fst) ∧
 x.snd.fst = x.snd.fst ∧
 x.snd.snd.fst = x.snd.snd.fst ∧
 x.fst = x.fst ∧
 (↑(List.length x.fst) : Int) =
 (↑(List.length x.fst) : Int)) ∧
 Z
 (IntKind.wrap IntKind.i64
 ((List.getD x.fst (Int.toNat a_1)
 (Ty.dflt t79)).snd.fst.snd.fst -
 (List.getD x.fst (Int.toNat a_1)
 (Ty.dflt t79)).fst.snd.fst),
 IntKind.wrap IntKind.i64 (a_1 + (1 : Int)), ()) ∧
 μ
 (IntKind.wrap IntKind.i64
 ((List.getD x.fst (Int.toNat a_1)
 (Ty.dflt t79)).snd.fst.snd.fst -
 (List.getD x.fst (Int.toNat a_1)
 (Ty.dflt t79)).fst.snd.fst),
 IntKind.wrap IntKind.i64 (a_1 + (1 : Int)), ()) <
 μ (a, a_1, ())))) ∧
 (decide
 (x.snd.fst ≤
 (List.getD x.fst (Int.toNat a_1) (Ty.dflt t79)).fst.snd.fst) =
 false →
 (decide
 (x.snd.fst ≤
 (List.getD x.fst (Int.toNat a_1)
 (Ty.dflt t79)).fst.snd.fst) =
 true →
 ((List.getD x.fst (Int.toNat a_1)
 (Ty.dflt t79)).snd.fst.snd.fst,
 (0 : Int), ()) =
 mapP x.fst x.snd.fst x.snd.snd.fst) ∧
 (decide
 (x.snd.fst ≤
 (List.getD x.fst (Int.toNat a_1)
 (Ty.dflt t79)).fst.snd.fst) =
 false →
 (IntKind.wrap IntKind.i64 (a_1 + (1 : Int)) =
 IntKind.wrap IntKind.i64 (a_1 + (1 : Int)) ∧
 IntKind.wrap IntKind.i64
 ((List.getD x.fst (Int.toNat a_1)
 (Ty.dflt t79)).snd.fst.snd.fst -
 (List.getD x.fst (Int.toNat a_1)
 (Ty.dflt t79)).fst.snd.fst) =
 IntKind.wrap IntKind.i64
 ((List.getD x.fst (Int.toNat a_1)
 (Ty.dflt t79)).snd.fst.snd.fst -
 (List.getD x.fst (Int.toNat a_1)
 (Ty.dflt t79)).fst.snd.fst) ∧
 x.snd.fst = x.snd.fst ∧
 x.snd.snd.fst = x.snd.snd.fst ∧
 x.fst = x.fst ∧
 (↑(List.length x.fst) : Int) =
 (↑(List.length x.fst) : Int)) ∧
 Z
 (IntKind.wrap IntKind.i64
 ((List.getD x.fst (Int.toNat a_1)
 (Ty.dflt t79)).snd.fst.snd.fst -
 (List.getD x.fst (Int.toNat a_1)
 (Ty.dflt t79)).fst.snd.fst),
 IntKind.wrap IntKind.i64 (a_1 + (1 : Int)), ()) ∧
 μ
 (IntKind.wrap IntKind.i64
 ((List.getD x.fst (Int.toNat a_1)
 (Ty.dflt t79)).snd.fst.snd.fst -
 (List.getD x.fst (Int.toNat a_1)
 (Ty.dflt t79)).fst.snd.fst),
 IntKind.wrap IntKind.i64 (a_1 + (1 : Int)), ()) <
 μ (a, a_1, ()))))) ∧
 (decide (a_1 < (↑(List.length x.fst) : Int)) = false →
 (IntKind.wrap IntKind.i64 (x.snd.fst + a), (0 : Int), ()) =
 mapP x.fst x.snd.fst x.snd.snd.fst))) ∧
 ((x.snd.snd.fst != (0 : Int)) = false →
 ((0 : Int) = (0 : Int) ∧
 (0 : Int) = (0 : Int) ∧
 x.snd.fst = x.snd.fst ∧
 x.snd.snd.fst = x.snd.snd.fst ∧
 x.fst = x.fst ∧ (↑(List.length x.fst) : Int) = (↑(List.length x.fst) : Int)) ∧
 ∃ (Z : Int × Int × Unit → Prop),
 ∃ (μ : Int × Int × Unit → Nat),
 Z ((0 : Int), (0 : Int), ()) ∧
 ∀ (a a_1 : Int),
 Z (a, a_1, ()) →
 (decide (a_1 < (↑(List.length x.fst) : Int)) = true →
 ((0 : Int) ≤ a_1 ∧ a_1 < (↑(List.length x.fst) : Int)) ∧
 (decide (x.snd.fst < (List.getD x.fst (Int.toNat a_1) (Ty.dflt t79)).fst.fst) =
 true →
 (IntKind.wrap IntKind.i64 (x.snd.fst + a), (0 : Int), ()) =
 mapP x.fst x.snd.fst x.snd.snd.fst) ∧
 (decide
 (x.snd.fst < (List.getD x.fst (Int.toNat a_1) (Ty.dflt t79)).fst.fst) =
 false →
 (decide
 (x.snd.fst ≤
 (List.getD x.fst (Int.toNat a_1) (Ty.dflt t79)).fst.snd.fst) =
 true →
 ((x.snd.snd.fst == (0 : Int)) = true →
 ((List.getD x.fst (Int.toNat a_1) (Ty.dflt t79)).snd.fst.fst,
 (0 : Int), ()) =
 mapP x.fst x.snd.fst x.snd.snd.fst) ∧
 ((x.snd.snd.fst == (0 : Int)) = false →
 (decide
 (x.snd.fst ≤
 (List.getD x.fst (Int.toNat a_1)
 (Ty.dflt t79)).fst.snd.fst) =
 true →
 ((List.getD x.fst (Int.toNat a_1)
 (Ty.dflt t79)).snd.fst.snd.fst,
 (0 : Int), ()) =
 mapP x.fst x.snd.fst x.snd.snd.fst) ∧
 (decide
 (x.snd.fst ≤
 (List.getD x.fst (Int.toNat a_1)
 (Ty.dflt t79)).fst.snd.fst) =
 false →
 (IntKind.wrap IntKind.i64 (a_1 + (1 : Int)) =
 IntKind.wrap IntKind.i64 (a_1 + (1 : Int)) ∧
 IntKind.wrap IntKind.i64
 ((List.getD x.fst (Int.toNat a_1)
 (Ty.dflt t79)).snd.fst.snd.fst -
 (List.getD x.fst (Int.toNat a_1)
 (Ty.dflt t79)).fst.snd.fst) =
 IntKind.wrap IntKind.i64
 ((List.getD x.fst (Int.toNat a_1)
 (Ty.dflt t79)).snd.fst.snd.fst -
 (List.getD x.fst (Int.toNat a_1)
 (Ty.dflt t79)).fst.snd.fst) ∧
 x.snd.fst = x.snd.fst ∧
 x.snd.snd.fst = x.snd.snd.fst ∧
 x.fst = x.fst ∧
 (↑(List.length x.fst) : Int) =
 (↑(List.length x.fst) : Int)) ∧
 Z
 (IntKind.wrap IntKind.i64
 ((List.getD x.fst (Int.toNat a_1)
 (Ty.dflt t79)).snd.fst.snd.fst -
 (List.getD x.fst (Int.toNat a_1)
 (Ty.dflt t79)).fst.snd.fst),
 IntKind.wrap IntKind.i64 (a_1 + (1 : Int)), ()) ∧
 μ
 (IntKind.wrap IntKind.i64
 ((List.getD x.fst (Int.toNat a_1)
 (Ty.dflt t79)).snd.fst.snd.fst -
 (List.getD x.fst (Int.toNat a_1)
 (Ty.dflt t79)).fst.snd.fst),
 IntKind.wrap IntKind.i64 (a_1 + (1 : Int)), ()) <
 μ (a, a_1, ())))) ∧
 (decide
 (x.snd.fst ≤
 (List.getD x.fst (Int.toNat a_1) (Ty.dflt t79)).fst.snd.fst) =
 false →
 (decide
 (x.snd.fst ≤
 (List.getD x.fst (Int.toNat a_1) (Ty.dflt t79)).fst.snd.fst) =
 true →
 ((List.getD x.fst (Int.toNat a_1) (Ty.dflt t79)).snd.fst.snd.fst,
 (0 : Int), ()) =
 mapP x.fst x.snd.fst x.snd.snd.fst) ∧
 (decide
 (x.snd.fst ≤
 (List.getD x.fst (Int.toNat a_1) (Ty.dflt t79)).fst.snd.fst) =
 false →
 (IntKind.wrap IntKind.i64 (a_1 + (1 : Int)) =
 IntKind.wrap IntKind.i64 (a_1 + (1 : Int)) ∧
 IntKind.wrap IntKind.i64
 ((List.getD x.fst (Int.toNat a_1)
 (Ty.dflt t79)).snd.fst.snd.fst -
 (List.getD x.fst (Int.toNat a_1)
 (Ty.dflt t79)).fst.snd.fst) =
 IntKind.wrap IntKind.i64
 ((List.getD x.fst (Int.toNat a_1)
 (Ty.dflt t79)).snd.fst.snd.fst -
 (List.getD x.fst (Int.toNat a_1)
 (Ty.dflt t79)).fst.snd.fst) ∧
 x.snd.fst = x.snd.fst ∧
 x.snd.snd.fst = x.snd.snd.fst ∧
 x.fst = x.fst ∧
 (↑(List.length x.fst) : Int) =
 (↑(List.length x.fst) : Int)) ∧
 Z
 (IntKind.wrap IntKind.i64
 ((List.getD x.fst (Int.toNat a_1)
 (Ty.dflt t79)).snd.fst.snd.fst -
 (List.getD x.fst (Int.toNat a_1)
 (Ty.dflt t79)).fst.snd.fst),
 IntKind.wrap IntKind.i64 (a_1 + (1 : Int)), ()) ∧
 μ
 (IntKind.wrap IntKind.i64
 ((List.getD x.fst (Int.toNat a_1)
 (Ty.dflt t79)).snd.fst.snd.fst -
 (List.getD x.fst (Int.toNat a_1)
 (Ty.dflt t79)).fst.snd.fst),
 IntKind.wrap IntKind.i64 (a_1 + (1 : Int)), ()) <
 μ (a, a_1, ()))))) ∧
 (decide (a_1 < (↑(List.length x.fst) : Int)) = false →
 (IntKind.wrap IntKind.i64 (x.snd.fst + a), (0 : Int), ()) =
 mapP x.fst x.snd.fst x.snd.snd.fst)))))
theorem vcEq37 : fnVC E37 Tryd.f37 (bodyOf Tryd.f37) cMap = vc37 := by kernel_rfl
/- fn 38 -/
def hs38 : List (Nat × Nat × Hint) := [(0, 2, ⟨[.slot 9 t3], [0, 7, 8], [], []⟩)]
def nm38 : List Nat := [3000000025]
noncomputable def E38 : Env := env tab [(54, cWithin)] [] gl hs38 nm38
def vc38 : Prop :=
 ∀ (x : List Chg × Unit),
 List.length x.fst ≤ maxLen →
 ((0 : Int) = (0 : Int) ∧
 x.fst = x.fst ∧ x.fst = x.fst ∧ (↑(List.length x.fst) : Int) = (↑(List.length x.fst) : Int)) ∧
 ∃ (Z : Int × Unit → Prop),
 ∃ (μ : Int × Unit → Nat),
 Z ((0 : Int), ()) ∧
 ∀ (a : Int),
 Z (a, ()) →
 (decide (a < (↑(List.length x.fst) : Int)) = true →
 ((0 : Int) ≤ a ∧ a < (↑(List.length x.fst) : Int)) ∧
 True ∧
 ((!within (List.getD x.fst (Int.toNat a) (Ty.dflt t84)).fst) = true → false = normal x.fst) ∧
 ((!within (List.getD x.fst (Int.toNat a) (Ty.dflt t84)).fst) = false →
 True ∧
 ((!within (List.getD x.fst (Int.toNat a) (Ty.dflt t84)).snd.fst) = true →
 false = normal x.fst) ∧
 ((!within (List.getD x.fst (Int.toNat a) (Ty.dflt t84)).snd.fst) = false →
 (((List.getD x.fst (Int.toNat a) (Ty.dflt t84)).fst.fst ==
 (List.getD x.fst (Int.toNat a) (Ty.dflt t84)).fst.snd.fst) =
 true →
 (((List.getD x.fst (Int.toNat a) (Ty.dflt t84)).snd.fst.fst ==
 (List.getD x.fst (Int.toNat a) (Ty.dflt t84)).snd.fst.snd.fst) =
 true →
 false = normal x.fst) ∧
 (((List.getD x.fst (Int.toNat a) (Ty.dflt t84)).snd.fst.fst ==
 (List.getD x.fst (Int.toNat a) (Ty.dflt t84)).snd.fst.snd.fst) =
 false →
 (decide (a > (0 : Int)) = true →
 ((0 : Int) ≤ IntKind.wrap IntKind.i64 (a - (1 : Int)) ∧
 IntKind.wrap IntKind.i64 (a - (1 : Int)) <
 (↑(List.length x.fst) : Int)) ∧
 (decide
 (IntKind.wrap IntKind.i64
 ((List.getD x.fst (Int.toNat a) (Ty.dflt t84)).fst.fst -
 (List.getD x.fst
 (Int.toNat
 (IntKind.wrap IntKind.i64 (a - (1 : Int))))
 (Ty.dflt t84)).fst.snd.fst) <
 (0 : Int)) =
 true →
 false = normal x.fst) ∧
 (decide
 (IntKind.wrap IntKind.i64
 ((List.getD x.fst (Int.toNat a) (Ty.dflt t84)).fst.fst -
 (List.getD x.fst
 (Int.toNat
 (IntKind.wrap IntKind.i64 (a - (1 : Int))))
 (Ty.dflt t84)).fst.snd.fst) <
 (0 : Int)) =
 false →
 ((IntKind.wrap IntKind.i64
 ((List.getD x.fst (Int.toNat a) (Ty.dflt t84)).fst.fst -
 (List.getD x.fst
 (Int.toNat
 (IntKind.wrap IntKind.i64 (a - (1 : Int))))
 (Ty.dflt t84)).fst.snd.fst) !=
 IntKind.wrap IntKind.i64
 ((List.getD x.fst (Int.toNat a)
 (Ty.dflt t84)).snd.fst.fst -
 (List.getD x.fst
 (Int.toNat
 (IntKind.wrap IntKind.i64 (a - (1 : Int))))
 (Ty.dflt t84)).snd.fst.snd.fst)) =
 true →
 false = normal x.fst) ∧
 ((IntKind.wrap IntKind.i64
 ((List.getD x.fst (Int.toNat a) (Ty.dflt t84)).fst.fst -
 (List.getD x.fst
 (Int.toNat
 (IntKind.wrap IntKind.i64 (a - (1 : Int))))
 (Ty.dflt t84)).fst.snd.fst) !=
 IntKind.wrap IntKind.i64
 ((List.getD x.fst (Int.toNat a)
 (Ty.dflt t84)).snd.fst.fst -
 (List.getD x.fst
 (Int.toNat
 (IntKind.wrap IntKind.i64 (a - (1 : Int))))
 (Ty.dflt t84)).snd.fst.snd.fst)) =
 false →
 (decide (a > (0 : Int)) = true →
 ((IntKind.wrap IntKind.i64
 ((List.getD x.fst (Int.toNat a)
 (Ty.dflt t84)).fst.fst -
 (List.getD x.fst
 (Int.toNat
 (IntKind.wrap IntKind.i64
 (a - (1 : Int))))
 (Ty.dflt t84)).fst.snd.fst) ==
 (0 : Int)) =
 true →
 false = normal x.fst) ∧
 ((IntKind.wrap IntKind.i64
 ((List.getD x.fst (Int.toNat a)
 (Ty.dflt t84)).fst.fst -
 (List.getD x.fst
 (Int.toNat
 (IntKind.wrap IntKind.i64
 (a - (1 : Int))))
 (Ty.dflt t84)).fst.snd.fst) ==
 (0 : Int)) =
 false →
 (IntKind.wrap IntKind.i64 (a + (1 : Int)) =
 IntKind.wrap IntKind.i64 (a + (1 : Int)) ∧
 x.fst = x.fst ∧
 x.fst = x.fst ∧
 (↑(List.length x.fst) : Int) =
 (↑(List.length x.fst) : Int)) ∧
 Z (IntKind.wrap IntKind.i64 (a + (1 : Int)), ()) ∧
 μ (IntKind.wrap IntKind.i64 (a + (1 : Int)), ()) <
 μ (a, ()))) ∧
 (decide (a > (0 : Int)) = false →
 (IntKind.wrap IntKind.i64 (a + (1 : Int)) =
 IntKind.wrap IntKind.i64 (a + (1 : Int)) ∧
 x.fst = x.fst ∧
 x.fst = x.fst ∧
 (↑(List.length x.fst) : Int) =
 (↑(List.length x.fst) : Int)) ∧
 Z (IntKind.wrap IntKind.i64 (a + (1 : Int)), ()) ∧
 μ (IntKind.wrap IntKind.i64 (a + (1 : Int)), ()) <
 μ (a, ()))))) ∧
 (decide (a > (0 : Int)) = false →
 (decide
 (IntKind.wrap IntKind.i64
 ((List.getD x.fst (Int.toNat a) (Ty.dflt t84)).fst.fst -
 (0 : Int)) <
 (0 : Int)) =
 true →
 false = normal x.fst) ∧
 (decide
 (IntKind.wrap IntKind.i64
 ((List.getD x.fst (Int.toNat a) (Ty.dflt t84)).fst.fst -
 (0 : Int)) <
 (0 : Int)) =
 false →
 ((IntKind.wrap IntKind.i64
 ((List.getD x.fst (Int.toNat a) (Ty.dflt t84)).fst.fst -
 (0 : Int)) !=
 IntKind.wrap IntKind.i64
 ((List.getD x.fst (Int.toNat a) (Ty.dflt t84)).snd.fst.fst -
 (0 : Int))) =
 true →
 false = normal x.fst) ∧
 ((IntKind.wrap IntKind.i64
 ((List.getD x.fst (Int.toNat a) (Ty.dflt t84)).fst.fst -
 (0 : Int)) !=
 IntKind.wrap IntKind.i64
 ((List.getD x.fst (Int.toNat a) (Ty.dflt t84)).snd.fst.fst -
 (0 : Int))) =
 false →
 (decide (a > (0 : Int)) = true →
 ((IntKind.wrap IntKind.i64
 ((List.getD x.fst (Int.toNat a)
 (Ty.dflt t84)).fst.fst -
 (0 : Int)) ==
 (0 : Int)) =
 true →
 false = normal x.fst) ∧
 ((IntKind.wrap IntKind.i64
 ((List.getD x.fst (Int.toNat a)
 (Ty.dflt t84)).fst.fst -
 (0 : Int)) ==
 (0 : Int)) =
 false →
 (IntKind.wrap IntKind.i64 (a + (1 : Int)) =
 IntKind.wrap IntKind.i64 (a + (1 : Int)) ∧
 x.fst = x.fst ∧
 x.fst = x.fst ∧
 (↑(List.length x.fst) : Int) =
 (↑(List.length x.fst) : Int)) ∧
 Z (IntKind.wrap IntKind.i64 (a + (1 : Int)), ()) ∧
 μ (IntKind.wrap IntKind.i64 (a + (1 : Int)), ()) <
 μ (a, ()))) ∧
 (decide (a > (0 : Int)) = false →
 (IntKind.wrap IntKind.i64 (a + (1 : Int)) =
 IntKind.wrap IntKind.i64 (a + (1 : Int)) ∧
 x.fst = x.fst ∧
 x.fst = x.fst ∧
 (↑(List.length x.fst) : Int) =
 (↑(List.length x.fst) : Int)) ∧
 Z (IntKind.wrap IntKind.i64 (a + (1 : Int)), ()) ∧
 μ (IntKind.wrap IntKind.i64 (a + (1 : Int)), ()) <
 μ (a, ()))))))) ∧
 (((List.getD x.fst (Int.toNat a) (Ty.dflt t84)).fst.fst ==
 (List.getD x.fst (Int.toNat a) (Ty.dflt t84)).fst.snd.fst) =
 false →
 (decide (a > (0 : Int)) = true →
 ((0 : Int) ≤ IntKind.wrap IntKind.i64 (a - (1 : Int)) ∧
 IntKind.wrap IntKind.i64 (a - (1 : Int)) < (↑(List.length x.fst) : Int)) ∧
 (decide
 (IntKind.wrap IntKind.i64
 ((List.getD x.fst (Int.toNat a) (Ty.dflt t84)).fst.fst -
 (List.getD x.fst
 (Int.toNat (IntKind.wrap IntKind.i64 (a - (1 : Int))))
 (Ty.dflt t84)).fst.snd.fst) <
 (0 : Int)) =
 true →
 false = normal x.fst) ∧
 (decide
 (IntKind.wrap IntKind.i64
 ((List.getD x.fst (Int.toNat a) (Ty.dflt t84)).fst.fst -
 (List.getD x.fst
 (Int.toNat (IntKind.wrap IntKind.i64 (a - (1 : Int))))
 (Ty.dflt t84)).fst.snd.fst) <
 (0 : Int)) =
 false →
 ((IntKind.wrap IntKind.i64
 ((List.getD x.fst (Int.toNat a) (Ty.dflt t84)).fst.fst -
 (List.getD x.fst
 (Int.toNat
 (IntKind.wrap IntKind.i64 (a - (1 : Int))))
 (Ty.dflt t84)).fst.snd.fst) !=
 IntKind.wrap IntKind.i64
 ((List.getD x.fst (Int.toNat a) (Ty.dflt t84)).snd.fst.fst -
 (List.getD x.fst
 (Int.toNat
 (IntKind.wrap IntKind.i64 (a - (1 : Int))))
 (Ty.dflt t84)).snd.fst.snd.fst)) =
 true →
 false = normal x.fst) ∧
 ((IntKind.wrap IntKind.i64
 ((List.getD x.fst (Int.toNat a) (Ty.dflt t84)).fst.fst -
 (List.getD x.fst
 (Int.toNat
 (IntKind.wrap IntKind.i64 (a - (1 : Int))))
 (Ty.dflt t84)).fst.snd.fst) !=
 IntKind.wrap IntKind.i64
 ((List.getD x.fst (Int.toNat a) (Ty.dflt t84)).snd.fst.fst -
 (List.getD x.fst
 (Int.toNat
 (IntKind.wrap IntKind.i64 (a - (1 : Int))))
 (Ty.dflt t84)).snd.fst.snd.fst)) =
 false →
 (decide (a > (0 : Int)) = true →
 ((IntKind.wrap IntKind.i64
 ((List.getD x.fst (Int.toNat a)
 (Ty.dflt t84)).fst.fst -
 (List.getD x.fst
 (Int.toNat
 (IntKind.wrap IntKind.i64
 (a - (1 : Int))))
 (Ty.dflt t84)).fst.snd.fst) ==
 (0 : Int)) =
 true →
 false = normal x.fst) ∧
 ((IntKind.wrap IntKind.i64
 ((List.getD x.fst (Int.toNat a)
 (Ty.dflt t84)).fst.fst -
 (List.getD x.fst
 (Int.toNat
 (IntKind.wrap IntKind.i64
 (a - (1 : Int))))
 (Ty.dflt t84)).fst.snd.fst) ==
 (0 : Int)) =
 false →
 (IntKind.wrap IntKind.i64 (a + (1 : Int)) =
 IntKind.wrap IntKind.i64 (a + (1 : Int)) ∧
 x.fst = x.fst ∧
 x.fst = x.fst ∧
 (↑(List.length x.fst) : Int) =
 (↑(List.length x.fst) : Int)) ∧
 Z (IntKind.wrap IntKind.i64 (a + (1 : Int)), ()) ∧
 μ (IntKind.wrap IntKind.i64 (a + (1 : Int)), ()) <
 μ (a, ()))) ∧
 (decide (a > (0 : Int)) = false →
 (IntKind.wrap IntKind.i64 (a + (1 : Int)) =
 IntKind.wrap IntKind.i64 (a + (1 : Int)) ∧
 x.fst = x.fst ∧
 x.fst = x.fst ∧
 (↑(List.length x.fst) : Int) =
 (↑(List.length x.fst) : Int)) ∧
 Z (IntKind.wrap IntKind.i64 (a + (1 : Int)), ()) ∧
 μ (IntKind.wrap IntKind.i64 (a + (1 : Int)), ()) <
 μ (a, ()))))) ∧
 (decide (a > (0 : Int)) = false →
 (decide
 (IntKind.wrap IntKind.i64
 ((List.getD x.fst (Int.toNat a) (Ty.dflt t84)).fst.fst -
 (0 : Int)) <
 (0 : Int)) =
 true →
 false = normal x.fst) ∧
 (decide
 (IntKind.wrap IntKind.i64
 ((List.getD x.fst (Int.toNat a) (Ty.dflt t84)).fst.fst -
 (0 : Int)) <
 (0 : Int)) =
 false →
 ((IntKind.wrap IntKind.i64
 ((List.getD x.fst (Int.toNat a) (Ty.dflt t84)).fst.fst -
 (0 : Int)) !=
 IntKind.wrap IntKind.i64
 ((List.getD x.fst (Int.toNat a) (Ty.dflt t84)).snd.fst.fst -
 (0 : Int))) =
 true →
 false = normal x.fst) ∧
 ((IntKind.wrap IntKind.i64
 ((List.getD x.fst (Int.toNat a) (Ty.dflt t84)).fst.fst -
 (0 : Int)) !=
 IntKind.wrap IntKind.i64
 ((List.getD x.fst (Int.toNat a) (Ty.dflt t84)).snd.fst.fst -
 (0 : Int))) =
 false →
 (decide (a > (0 : Int)) = true →
 ((IntKind.wrap IntKind.i64
 ((List.getD x.fst (Int.toNat a) (Ty.dflt t84)).fst.fst -
 (0 : Int)) ==
 (0 : Int)) =
 true →
 false = normal x.fst) ∧
 ((IntKind.wrap IntKind.i64
 ((List.getD x.fst (Int.toNat a) (Ty.dflt t84)).fst.fst -
 (0 : Int)) ==
 (0 : Int)) =
 false →
 (IntKind.wrap IntKind.i64 (a + (1 : Int)) =
 IntKind.wrap IntKind.i64 (a + (1 : Int)) ∧
 x.fst = x.fst ∧
 x.fst = x.fst ∧
 (↑(List.length x.fst) : Int) =
 (↑(List.length x.fst) : Int)) ∧
 Z (IntKind.wrap IntKind.i64 (a + (1 : Int)), ()) ∧
 μ (IntKind.wrap IntKind.i64 (a + (1 : Int)), ()) <
 μ (a, ()))) ∧
 (decide (a > (0 : Int)) = false →
 (IntKind.wrap IntKind.i64 (a + (1 : Int)) =
 IntKind.wrap IntKind.i64 (a + (1 : Int)) ∧
 x.fst = x.fst ∧
 x.fst = x.fst ∧
 (↑(List.length x.fst) : Int) =
 (↑(List.length x.fst) : Int)) ∧
 Z (IntKind.wrap IntKind.i64 (a + (1 : Int)), ()) ∧
 μ (IntKind.wrap IntKind.i64 (a + (1 : Int)), ()) <
 μ (a, ()))))))))) ∧
 (decide (a < (↑(List.length x.fst) : Int)) = false → true = normal x.fst)
theorem vcEq38 : fnVC E38 Tryd.f38 (bodyOf Tryd.f38) cRefNormal = vc38 := by kernel_rfl
/- fn 39 -/
def hs39 : List (Nat × Nat × Hint) := [(0, 3, ⟨[.slot 7 t3, .slot 12 t3], [1, 2, 10, 11], [], []⟩)]
def nm39 : List Nat := [3000000025]
noncomputable def E39 : Env := env tab [] [] gl hs39 nm39
def vc39 : Prop :=
 ∀ (x : List Chg × Int × Int × Unit),
 List.length x.fst ≤ maxLen ∧ normal x.fst = true ∧ (0 : Int) ≤ x.snd.fst ∧ x.snd.fst ≤ (1099511627776 : Int) →
 ((0 : Int) = (0 : Int) ∧
 (0 : Int) = (0 : Int) ∧
 x.snd.fst = x.snd.fst ∧
 x.snd.snd.fst = x.snd.snd.fst ∧
 x.fst = x.fst ∧ (↑(List.length x.fst) : Int) = (↑(List.length x.fst) : Int)) ∧
 ∃ (Z : Int × Int × Unit → Prop),
 ∃ (μ : Int × Int × Unit → Nat),
 Z ((0 : Int), (0 : Int), ()) ∧
 ∀ (a a_1 : Int),
 Z (a, a_1, ()) →
 (decide (a_1 < (↑(List.length x.fst) : Int)) = true →
 ((0 : Int) ≤ a_1 ∧ a_1 < (↑(List.length x.fst) : Int)) ∧
 (decide (x.snd.fst ≥ (List.getD x.fst (Int.toNat a_1) (Ty.dflt t84)).fst.fst) = true →
 (decide (x.snd.fst ≤ (List.getD x.fst (Int.toNat a_1) (Ty.dflt t84)).fst.snd.fst) = true →
 ((x.snd.snd.fst == (0 : Int)) = true →
 (List.getD x.fst (Int.toNat a_1) (Ty.dflt t84)).snd.fst.fst =
 refMap x.snd.fst x.snd.snd.fst x.fst (0 : Int)) ∧
 ((x.snd.snd.fst == (0 : Int)) = false →
 (List.getD x.fst (Int.toNat a_1) (Ty.dflt t84)).snd.fst.snd.fst =
 refMap x.snd.fst x.snd.snd.fst x.fst (0 : Int))) ∧
 (decide (x.snd.fst ≤ (List.getD x.fst (Int.toNat a_1) (Ty.dflt t84)).fst.snd.fst) = false →
 (decide (x.snd.fst > (List.getD x.fst (Int.toNat a_1) (Ty.dflt t84)).fst.snd.fst) = true →
 (IntKind.wrap IntKind.i64 (a_1 + (1 : Int)) =
 IntKind.wrap IntKind.i64 (a_1 + (1 : Int)) ∧
 IntKind.wrap IntKind.i64
 ((List.getD x.fst (Int.toNat a_1) (Ty.dflt t84)).snd.fst.snd.fst -
 (List.getD x.fst (Int.toNat a_1) (Ty.dflt t84)).fst.snd.fst) =
 IntKind.wrap IntKind.i64
 ((List.getD x.fst (Int.toNat a_1) (Ty.dflt t84)).snd.fst.snd.fst -
 (List.getD x.fst (Int.toNat a_1) (Ty.dflt t84)).fst.snd.fst) ∧
 x.snd.fst = x.snd.fst ∧
 x.snd.snd.fst = x.snd.snd.fst ∧
 x.fst = x.fst ∧
 (↑(List.length x.fst) : Int) = (↑(List.length x.fst) : Int)) ∧
 Z
 (IntKind.wrap IntKind.i64
 ((List.getD x.fst (Int.toNat a_1) (Ty.dflt t84)).snd.fst.snd.fst -
 (List.getD x.fst (Int.toNat a_1) (Ty.dflt t84)).fst.snd.fst),
 IntKind.wrap IntKind.i64 (a_1 + (1 : Int)), ()) ∧
 μ
 (IntKind.wrap IntKind.i64
 ((List.getD x.fst (Int.toNat a_1) (Ty.dflt t84)).snd.fst.snd.fst -
 (List.getD x.fst (Int.toNat a_1) (Ty.dflt t84)).fst.snd.fst),
 IntKind.wrap IntKind.i64 (a_1 + (1 : Int)), ()) <
 μ (a, a_1, ())) ∧
 (decide (x.snd.fst > (List.getD x.fst (Int.toNat a_1) (Ty.dflt t84)).fst.snd.fst) =
 false →
 (IntKind.wrap IntKind.i64 (a_1 + (1 : Int)) =
 IntKind.wrap IntKind.i64 (a_1 + (1 : Int)) ∧
 a = a ∧
 x.snd.fst = x.snd.fst ∧
 x.snd.snd.fst = x.snd.snd.fst ∧
 x.fst = x.fst ∧
 (↑(List.length x.fst) : Int) = (↑(List.length x.fst) : Int)) ∧
 Z (a, IntKind.wrap IntKind.i64 (a_1 + (1 : Int)), ()) ∧
 μ (a, IntKind.wrap IntKind.i64 (a_1 + (1 : Int)), ()) < μ (a, a_1, ())))) ∧
 (decide (x.snd.fst ≥ (List.getD x.fst (Int.toNat a_1) (Ty.dflt t84)).fst.fst) = false →
 (decide (x.snd.fst > (List.getD x.fst (Int.toNat a_1) (Ty.dflt t84)).fst.snd.fst) = true →
 (IntKind.wrap IntKind.i64 (a_1 + (1 : Int)) = IntKind.wrap IntKind.i64 (a_1 + (1 : Int)) ∧
 IntKind.wrap IntKind.i64
 ((List.getD x.fst (Int.toNat a_1) (Ty.dflt t84)).snd.fst.snd.fst -
 (List.getD x.fst (Int.toNat a_1) (Ty.dflt t84)).fst.snd.fst) =
 IntKind.wrap IntKind.i64
 ((List.getD x.fst (Int.toNat a_1) (Ty.dflt t84)).snd.fst.snd.fst -
 (List.getD x.fst (Int.toNat a_1) (Ty.dflt t84)).fst.snd.fst) ∧
 x.snd.fst = x.snd.fst ∧
 x.snd.snd.fst = x.snd.snd.fst ∧
 x.fst = x.fst ∧ (↑(List.length x.fst) : Int) = (↑(List.length x.fst) : Int)) ∧
 Z
 (IntKind.wrap IntKind.i64
 ((List.getD x.fst (Int.toNat a_1) (Ty.dflt t84)).snd.fst.snd.fst -
 (List.getD x.fst (Int.toNat a_1) (Ty.dflt t84)).fst.snd.fst),
 IntKind.wrap IntKind.i64 (a_1 + (1 : Int)), ()) ∧
 μ
 (IntKind.wrap IntKind.i64
 ((List.getD x.fst (Int.toNat a_1) (Ty.dflt t84)).snd.fst.snd.fst -
 (List.getD x.fst (Int.toNat a_1) (Ty.dflt t84)).fst.snd.fst),
 IntKind.wrap IntKind.i64 (a_1 + (1 : Int)), ()) <
 μ (a, a_1, ())) ∧
 (decide (x.snd.fst > (List.getD x.fst (Int.toNat a_1) (Ty.dflt t84)).fst.snd.fst) = false →
 (IntKind.wrap IntKind.i64 (a_1 + (1 : Int)) = IntKind.wrap IntKind.i64 (a_1 + (1 : Int)) ∧
 a = a ∧
 x.snd.fst = x.snd.fst ∧
 x.snd.snd.fst = x.snd.snd.fst ∧
 x.fst = x.fst ∧ (↑(List.length x.fst) : Int) = (↑(List.length x.fst) : Int)) ∧
 Z (a, IntKind.wrap IntKind.i64 (a_1 + (1 : Int)), ()) ∧
 μ (a, IntKind.wrap IntKind.i64 (a_1 + (1 : Int)), ()) < μ (a, a_1, ())))) ∧
 (decide (a_1 < (↑(List.length x.fst) : Int)) = false →
 IntKind.wrap IntKind.i64 (x.snd.fst + a) = refMap x.snd.fst x.snd.snd.fst x.fst (0 : Int))
theorem vcEq39 : fnVC E39 Tryd.f39 (bodyOf Tryd.f39) cRefMap = vc39 := by kernel_rfl
/- fn 40 -/
def hs40 : List (Nat × Nat × Hint) := [(0, 3, ⟨[.slot 3 t3, .pos 5], [5], [5], []⟩)]
def nm40 : List Nat := [3000000025]
noncomputable def E40 : Env := env tab [] [] gl hs40 nm40
def vc40 : Prop :=
 ∀ (x : ByteArray × Unit),
 ByteArray.size x.fst ≤ maxLen →
 (((0 : Int) = (0 : Int) ∧ True) ∧ True ∧ x.fst = x.fst ∧ (0 : Nat) = (0 : Nat)) ∧
 ∃ (Z : Int × Nat × Unit → Prop),
 ∃ (μ : Int × Nat × Unit → Nat),
 Z ((0 : Int), (0 : Nat), ()) ∧
 ∀ (a : Int) (a_1 : Nat),
 Z (a, a_1, ()) →
 (decide (a_1 < ByteArray.size x.fst) = true →
 (true = true →
 ((IntKind.wrap IntKind.i64 (a + (1 : Int)) = IntKind.wrap IntKind.i64 (a + (1 : Int)) ∧ True) ∧
 True ∧
 x.fst = x.fst ∧ a_1 + (Utf8.decode x.fst a_1).snd = a_1 + (Utf8.decode x.fst a_1).snd) ∧
 Z (IntKind.wrap IntKind.i64 (a + (1 : Int)), a_1 + (Utf8.decode x.fst a_1).snd, ()) ∧
 μ (IntKind.wrap IntKind.i64 (a + (1 : Int)), a_1 + (Utf8.decode x.fst a_1).snd, ()) <
 μ (a, a_1, ())) ∧
 (true = false → a = (↑(List.length (decodeL x.fst)) : Int))) ∧
 (decide (a_1 < ByteArray.size x.fst) = false →
 (false = true →
 ((IntKind.wrap IntKind.i64 (a + (1 : Int)) = IntKind.wrap IntKind.i64 (a + (1 : Int)) ∧ True) ∧
 True ∧ x.fst = x.fst ∧ a_1 = a_1) ∧
 Z (IntKind.wrap IntKind.i64 (a + (1 : Int)), a_1, ()) ∧
 μ (IntKind.wrap IntKind.i64 (a + (1 : Int)), a_1, ()) < μ (a, a_1, ())) ∧
 (false = false → a = (↑(List.length (decodeL x.fst)) : Int)))
theorem vcEq40 : fnVC E40 Tryd.f40 (bodyOf Tryd.f40) cCount = vc40 := by kernel_rfl
/- fn 42 -/
def hs42 : List (Nat × Nat × Hint) := [(0, 3, ⟨[.rowS 3 900000003 t5 5, .slot 8 t3], [6, 7], [], []⟩)]
def nm42 : List Nat := [3000000025]
noncomputable def E42 : Env := env tab [(56, cRight)] [] gl hs42 nm42
def vc42 : Prop :=
 ∀ (x : List Int × Unit),
 List.length x.fst ≤ (1000000000 : Nat) →
 (((0 : Int) = (0 : Int) ∧ True ∧ x.fst = x.fst ∧ (↑(List.length x.fst) : Int) = (↑(List.length x.fst) : Int)) ∧
 True ∧ True) ∧
 ∃ (Z : List Int × Int × Unit → Prop),
 ∃ (μ : List Int × Int × Unit → Nat),
 Z ([], (0 : Int), ()) ∧
 ∀ (a : List Int) (a_1 : Int),
 Z (a, a_1, ()) →
 (decide (a_1 < (↑(List.length x.fst) : Int)) = true →
 ((0 : Int) ≤ a_1 ∧ a_1 < (↑(List.length x.fst) : Int)) ∧
 True ∧
 ((!right (List.getD x.fst (Int.toNat a_1) (Ty.dflt t21))) = true →
 (List.length a + List.length (strBytes (Utf8.encode (65533 : Int)))) * (1 : Nat) ≤
 (140737488355328 : Nat) ∧
 List.length a + List.length (strBytes (Utf8.encode (65533 : Int))) ≤ maxLen ∧
 ((IntKind.wrap IntKind.i64 (a_1 + (1 : Int)) =
 IntKind.wrap IntKind.i64 (a_1 + (1 : Int)) ∧
 True ∧
 x.fst = x.fst ∧ (↑(List.length x.fst) : Int) = (↑(List.length x.fst) : Int)) ∧
 a ++ strBytes (Utf8.encode (65533 : Int)) =
 a ++ strBytes (Utf8.encode (65533 : Int)) ∧
 True) ∧
 Z
 (a ++ strBytes (Utf8.encode (65533 : Int)),
 IntKind.wrap IntKind.i64 (a_1 + (1 : Int)), ()) ∧
 μ
 (a ++ strBytes (Utf8.encode (65533 : Int)),
 IntKind.wrap IntKind.i64 (a_1 + (1 : Int)), ()) <
 μ (a, a_1, ())) ∧
 ((!right (List.getD x.fst (Int.toNat a_1) (Ty.dflt t21))) = false →
 (List.length a +
 List.length
 (strBytes (Utf8.encode (List.getD x.fst (Int.toNat a_1) (Ty.dflt t21))))) *
 (1 : Nat) ≤
 (140737488355328 : Nat) ∧
 List.length a +
 List.length
 (strBytes (Utf8.encode (List.getD x.fst (Int.toNat a_1) (Ty.dflt t21)))) ≤
 maxLen ∧
 ((IntKind.wrap IntKind.i64 (a_1 + (1 : Int)) =
 IntKind.wrap IntKind.i64 (a_1 + (1 : Int)) ∧
 True ∧
 x.fst = x.fst ∧ (↑(List.length x.fst) : Int) = (↑(List.length x.fst) : Int)) ∧
 a ++ strBytes (Utf8.encode (List.getD x.fst (Int.toNat a_1) (Ty.dflt t21))) =
 a ++ strBytes (Utf8.encode (List.getD x.fst (Int.toNat a_1) (Ty.dflt t21))) ∧
 True) ∧
 Z
 (a ++ strBytes (Utf8.encode (List.getD x.fst (Int.toNat a_1) (Ty.dflt t21))),
 IntKind.wrap IntKind.i64 (a_1 + (1 : Int)), ()) ∧
 μ
 (a ++ strBytes (Utf8.encode (List.getD x.fst (Int.toNat a_1) (Ty.dflt t21))),
 IntKind.wrap IntKind.i64 (a_1 + (1 : Int)), ()) <
 μ (a, a_1, ()))) ∧
 (decide (a_1 < (↑(List.length x.fst) : Int)) = false → bytesOf a = encode x.fst)
theorem vcEq42 : fnVC E42 Tryd.f42 (bodyOf Tryd.f42) cEncode = vc42 := by kernel_rfl
/- fn 43 -/
def hs43 : List (Nat × Nat × Hint) := [(0, 3, ⟨[.rowS 3 900000003 t21 21, .pos 7], [7], [7], []⟩)]
def nm43 : List Nat := [3000000025]
noncomputable def E43 : Env := env tab [] [] gl hs43 nm43
def vc43 : Prop :=
 ∀ (x : ByteArray × Unit),
 ByteArray.size x.fst ≤ (1000000000 : Nat) →
 ((True ∧ True) ∧ (True ∧ x.fst = x.fst ∧ (0 : Nat) = (0 : Nat)) ∧ True ∧ True) ∧
 ∃ (Z : List Int × Nat × Unit → Prop),
 ∃ (μ : List Int × Nat × Unit → Nat),
 Z ([], (0 : Nat), ()) ∧
 ∀ (a : List Int) (a_1 : Nat),
 Z (a, a_1, ()) →
 (decide (a_1 < ByteArray.size x.fst) = true →
 (true = true →
 (List.length a + List.length [(↑(Utf8.decode x.fst a_1).fst : Int)]) * (4 : Nat) ≤
 (140737488355328 : Nat) ∧
 List.length a + List.length [(↑(Utf8.decode x.fst a_1).fst : Int)] ≤ maxLen ∧
 ((True ∧ True) ∧
 (True ∧
 x.fst = x.fst ∧
 a_1 + (Utf8.decode x.fst a_1).snd = a_1 + (Utf8.decode x.fst a_1).snd) ∧
 a ++ [(↑(Utf8.decode x.fst a_1).fst : Int)] =
 a ++ [(↑(Utf8.decode x.fst a_1).fst : Int)] ∧
 True) ∧
 Z (a ++ [(↑(Utf8.decode x.fst a_1).fst : Int)], a_1 + (Utf8.decode x.fst a_1).snd, ()) ∧
 μ (a ++ [(↑(Utf8.decode x.fst a_1).fst : Int)], a_1 + (Utf8.decode x.fst a_1).snd, ()) <
 μ (a, a_1, ())) ∧
 (true = false → a = decodeL x.fst)) ∧
 (decide (a_1 < ByteArray.size x.fst) = false →
 (false = true → False) ∧ (false = false → a = decodeL x.fst))
theorem vcEq43 : fnVC E43 Tryd.f43 (bodyOf Tryd.f43) cDecode = vc43 := by kernel_rfl
/- fn 46 -/
def hs46 : List (Nat × Nat × Hint) := [(0, 3, ⟨[.slot 8 t3], [3, 6, 7], [], []⟩)]
def nm46 : List Nat := [3000000025]
noncomputable def E46 : Env := env tab [] [] gl hs46 nm46
def vc46 : Prop :=
 ∀ (x : List Int × Unit),
 List.length x.fst ≤ maxLen →
 ((0 : Int) = (0 : Int) ∧
 (0 : Int) = (0 : Int) ∧ x.fst = x.fst ∧ (↑(List.length x.fst) : Int) = (↑(List.length x.fst) : Int)) ∧
 ∃ (Z : Int × Unit → Prop),
 ∃ (μ : Int × Unit → Nat),
 Z ((0 : Int), ()) ∧
 ∀ (a : Int),
 Z (a, ()) →
 (decide (a < (↑(List.length x.fst) : Int)) = true →
 ((0 : Int) ≤ a ∧ a < (↑(List.length x.fst) : Int)) ∧
 ((List.getD x.fst (Int.toNat a) (Ty.dflt t3) != (0 : Int)) = true →
 List.getD x.fst (Int.toNat a) (Ty.dflt t3) = firstNZ x.fst) ∧
 ((List.getD x.fst (Int.toNat a) (Ty.dflt t3) != (0 : Int)) = false →
 (IntKind.wrap IntKind.i64 (a + (1 : Int)) = IntKind.wrap IntKind.i64 (a + (1 : Int)) ∧
 (0 : Int) = (0 : Int) ∧
 x.fst = x.fst ∧ (↑(List.length x.fst) : Int) = (↑(List.length x.fst) : Int)) ∧
 Z (IntKind.wrap IntKind.i64 (a + (1 : Int)), ()) ∧
 μ (IntKind.wrap IntKind.i64 (a + (1 : Int)), ()) < μ (a, ()))) ∧
 (decide (a < (↑(List.length x.fst) : Int)) = false → (0 : Int) = firstNZ x.fst)
theorem vcEq46 : fnVC E46 Tryd.f46 (bodyOf Tryd.f46) cOr = vc46 := by kernel_rfl
/- fn 47 -/
def hs47 : List (Nat × Nat × Hint) := []
def nm47 : List Nat := [3000000025]
noncomputable def E47 : Env := env tab [] [(67, Tryd.f67)] gl hs47 nm47
def vc47 : Prop :=
 ∀ (x : Int × Int × Unit),
 True →
 ((x.fst != x.fst) = true →
 ((x.snd.fst != x.snd.fst) = true → (0 : Int) = cmpI x.fst x.snd.fst) ∧
 ((x.snd.fst != x.snd.fst) = false → (-1 : Int) = cmpI x.fst x.snd.fst)) ∧
 ((x.fst != x.fst) = false →
 ((x.snd.fst != x.snd.fst) = true → (1 : Int) = cmpI x.fst x.snd.fst) ∧
 ((x.snd.fst != x.snd.fst) = false →
 (decide (x.fst < x.snd.fst) = true → (-1 : Int) = cmpI x.fst x.snd.fst) ∧
 (decide (x.fst < x.snd.fst) = false →
 (decide (x.fst > x.snd.fst) = true → (1 : Int) = cmpI x.fst x.snd.fst) ∧
 (decide (x.fst > x.snd.fst) = false → (0 : Int) = cmpI x.fst x.snd.fst))))
theorem vcEq47 : fnVC E47 Tryd.f47 (bodyOf Tryd.f47) cCmp = vc47 := by kernel_rfl
/- fn 48 -/
def hs48 : List (Nat × Nat × Hint) := []
def nm48 : List Nat := [3000000025]
noncomputable def E48 : Env := env tab [] [] gl hs48 nm48
def vc48 : Prop :=
 ∀ (x : Int × Unit),
 True →
 (decide (x.fst < (0 : Int)) = true → (0 : Int) = uSize x.fst) ∧
 (decide (x.fst < (0 : Int)) = false →
 (decide (x.fst > (1114111 : Int)) = true → (0 : Int) = uSize x.fst) ∧
 (decide (x.fst > (1114111 : Int)) = false →
 (decide (x.fst ≥ (55296 : Int)) = true →
 (decide (x.fst ≤ (57343 : Int)) = true → (0 : Int) = uSize x.fst) ∧
 (decide (x.fst ≤ (57343 : Int)) = false →
 (decide (x.fst < (128 : Int)) = true → (1 : Int) = uSize x.fst) ∧
 (decide (x.fst < (128 : Int)) = false →
 (decide (x.fst < (2048 : Int)) = true → (2 : Int) = uSize x.fst) ∧
 (decide (x.fst < (2048 : Int)) = false →
 (decide (x.fst < (65536 : Int)) = true → (3 : Int) = uSize x.fst) ∧
 (decide (x.fst < (65536 : Int)) = false → (4 : Int) = uSize x.fst))))) ∧
 (decide (x.fst ≥ (55296 : Int)) = false →
 (decide (x.fst < (128 : Int)) = true → (1 : Int) = uSize x.fst) ∧
 (decide (x.fst < (128 : Int)) = false →
 (decide (x.fst < (2048 : Int)) = true → (2 : Int) = uSize x.fst) ∧
 (decide (x.fst < (2048 : Int)) = false →
 (decide (x.fst < (65536 : Int)) = true → (3 : Int) = uSize x.fst) ∧
 (decide (x.fst < (65536 : Int)) = false → (4 : Int) = uSize x.fst))))))
theorem vcEq48 : fnVC E48 Tryd.f48 (bodyOf Tryd.f48) cUSize = vc48 := by kernel_rfl
/- fn 49 -/
def hs49 : List (Nat × Nat × Hint) := []
def nm49 : List Nat := [3000000025]
noncomputable def E49 : Env := env tab [] [] gl hs49 nm49
def vc49 : Prop :=
 ∀ (x : Int × Int × Unit),
 (0 : Int) ≤ x.fst ∧ x.fst ≤ (1114111 : Int) ∧ uSize x.fst = x.snd.fst →
 ((x.snd.fst == (1 : Int)) = true → bytesOf [IntKind.wrap IntKind.u8 x.fst] = bytesOf (uBytes x.fst x.snd.fst)) ∧
 ((x.snd.fst == (1 : Int)) = false →
 ((x.snd.fst == (2 : Int)) = true →
 (64 : Int) ≠ (0 : Int) ∧
 (64 : Int) ≠ (0 : Int) ∧
 bytesOf
 [IntKind.wrap IntKind.u8
 (IntKind.wrap IntKind.i32 ((192 : Int) + IntKind.wrap IntKind.i32 (Int.tdiv x.fst (64 : Int)))),
 IntKind.wrap IntKind.u8 (IntKind.wrap IntKind.i32 ((128 : Int) + Int.tmod x.fst (64 : Int)))] =
 bytesOf (uBytes x.fst x.snd.fst)) ∧
 ((x.snd.fst == (2 : Int)) = false →
 ((x.snd.fst == (3 : Int)) = true →
 (4096 : Int) ≠ (0 : Int) ∧
 (64 : Int) ≠ (0 : Int) ∧
 (64 : Int) ≠ (0 : Int) ∧
 (64 : Int) ≠ (0 : Int) ∧
 bytesOf
 [IntKind.wrap IntKind.u8
 (IntKind.wrap IntKind.i32
 ((224 : Int) + IntKind.wrap IntKind.i32 (Int.tdiv x.fst (4096 : Int)))),
 IntKind.wrap IntKind.u8
 (IntKind.wrap IntKind.i32
 ((128 : Int) +
 Int.tmod (IntKind.wrap IntKind.i32 (Int.tdiv x.fst (64 : Int))) (64 : Int))),
 IntKind.wrap IntKind.u8
 (IntKind.wrap IntKind.i32 ((128 : Int) + Int.tmod x.fst (64 : Int)))] =
 bytesOf (uBytes x.fst x.snd.fst)) ∧
 ((x.snd.fst == (3 : Int)) = false →
 (262144 : Int) ≠ (0 : Int) ∧
 (4096 : Int) ≠ (0 : Int) ∧
 (64 : Int) ≠ (0 : Int) ∧
 (64 : Int) ≠ (0 : Int) ∧
 (64 : Int) ≠ (0 : Int) ∧
 (64 : Int) ≠ (0 : Int) ∧
 bytesOf
 [IntKind.wrap IntKind.u8
 (IntKind.wrap IntKind.i32
 ((240 : Int) + IntKind.wrap IntKind.i32 (Int.tdiv x.fst (262144 : Int)))),
 IntKind.wrap IntKind.u8
 (IntKind.wrap IntKind.i32
 ((128 : Int) +
 Int.tmod (IntKind.wrap IntKind.i32 (Int.tdiv x.fst (4096 : Int))) (64 : Int))),
 IntKind.wrap IntKind.u8
 (IntKind.wrap IntKind.i32
 ((128 : Int) +
 Int.tmod (IntKind.wrap IntKind.i32 (Int.tdiv x.fst (64 : Int))) (64 : Int))),
 IntKind.wrap IntKind.u8
 (IntKind.wrap IntKind.i32 ((128 : Int) + Int.tmod x.fst (64 : Int)))] =
 bytesOf (uBytes x.fst x.snd.fst))))
theorem vcEq49 : fnVC E49 Tryd.f49 (bodyOf Tryd.f49) cOne = vc49 := by kernel_rfl
/- fn 50 -/
def hs50 : List (Nat × Nat × Hint) := [(0, 4, ⟨[.slot 5 t3, .cell 4 0 t21, .cell 4 1 t3], [0, 1, 4], [4], []⟩)]
def nm50 : List Nat := [3000000025]
noncomputable def E50 : Env := env tab [(68, cNumber), (48, cUSize), (49, cOne)] [] gl hs50 nm50
def vc50 : Prop :=
 ∀ (x : ByteArray × Int × Unit),
 ByteArray.size x.fst ≤ maxLen →
 (decide (x.snd.fst < (0 : Int)) = true → ((0 : Int), (0 : Int), ()) = uStep x.fst x.snd.fst) ∧
 (decide (x.snd.fst < (0 : Int)) = false →
 (decide (x.snd.fst ≥ (↑(ByteArray.size x.fst) : Int)) = true →
 ((0 : Int), (0 : Int), ()) = uStep x.fst x.snd.fst) ∧
 (decide (x.snd.fst ≥ (↑(ByteArray.size x.fst) : Int)) = false →
 (((1 : Int) = (1 : Int) ∧ x.fst = x.fst ∧ x.snd.fst = x.snd.fst ∧ True) ∧
 (0 : Int) = (0 : Int) ∧ (0 : Int) = (0 : Int)) ∧
 ∃ (Z : Int × Int × Int × Unit → Prop),
 ∃ (μ : Int × Int × Int × Unit → Nat),
 Z ((1 : Int), (0 : Int), (0 : Int), ()) ∧
 ∀ (a a_1 a_2 : Int),
 Z (a, a_1, a_2, ()) →
 (decide (a ≤ (4 : Int)) = true →
 (decide (a ≤ IntKind.wrap IntKind.i64 ((↑(ByteArray.size x.fst) : Int) - x.snd.fst)) =
 true →
 ((0 : Int) ≤ x.snd.fst ∧
 x.snd.fst ≤ IntKind.wrap IntKind.i64 (x.snd.fst + a) ∧
 IntKind.wrap IntKind.i64 (x.snd.fst + a) ≤ (↑(ByteArray.size x.fst) : Int)) ∧
 ((1 : Nat) ≤
 ByteArray.size
 (ByteArray.extract x.fst (Int.toNat x.snd.fst)
 (Int.toNat (IntKind.wrap IntKind.i64 (x.snd.fst + a)))) ∧
 ByteArray.size
 (ByteArray.extract x.fst (Int.toNat x.snd.fst)
 (Int.toNat (IntKind.wrap IntKind.i64 (x.snd.fst + a)))) ≤
 (4 : Nat)) ∧
 True ∧
 ((uSize
 (uNum
 (strBytes
 (ByteArray.extract x.fst (Int.toNat x.snd.fst)
 (Int.toNat (IntKind.wrap IntKind.i64 (x.snd.fst + a)))))) ==
 a) =
 true →
 ((0 : Int) ≤
 uNum
 (strBytes
 (ByteArray.extract x.fst (Int.toNat x.snd.fst)
 (Int.toNat (IntKind.wrap IntKind.i64 (x.snd.fst + a))))) ∧
 uNum
 (strBytes
 (ByteArray.extract x.fst (Int.toNat x.snd.fst)
 (Int.toNat (IntKind.wrap IntKind.i64 (x.snd.fst + a))))) ≤
 (1114111 : Int) ∧
 uSize
 (uNum
 (strBytes
 (ByteArray.extract x.fst (Int.toNat x.snd.fst)
 (Int.toNat (IntKind.wrap IntKind.i64 (x.snd.fst + a)))))) =
 a) ∧
 ((ByteArray.toList
 (bytesOf
 (uBytes
 (uNum
 (strBytes
 (ByteArray.extract x.fst (Int.toNat x.snd.fst)
 (Int.toNat
 (IntKind.wrap IntKind.i64 (x.snd.fst + a))))))
 a)) ==
 ByteArray.toList
 (ByteArray.extract x.fst (Int.toNat x.snd.fst)
 (Int.toNat (IntKind.wrap IntKind.i64 (x.snd.fst + a))))) =
 true →
 (uNum
 (strBytes
 (ByteArray.extract x.fst (Int.toNat x.snd.fst)
 (Int.toNat (IntKind.wrap IntKind.i64 (x.snd.fst + a))))),
 a, ()) =
 uStep x.fst x.snd.fst) ∧
 ((ByteArray.toList
 (bytesOf
 (uBytes
 (uNum
 (strBytes
 (ByteArray.extract x.fst (Int.toNat x.snd.fst)
 (Int.toNat
 (IntKind.wrap IntKind.i64 (x.snd.fst + a))))))
 a)) ==
 ByteArray.toList
 (ByteArray.extract x.fst (Int.toNat x.snd.fst)
 (Int.toNat (IntKind.wrap IntKind.i64 (x.snd.fst + a))))) =
 false →
 ((IntKind.wrap IntKind.i64 (a + (1 : Int)) =
 IntKind.wrap IntKind.i64 (a + (1 : Int)) ∧
 x.fst = x.fst ∧ x.snd.fst = x.snd.fst ∧ True) ∧
 a_1 = a_1 ∧ a_2 = a_2) ∧
 Z (IntKind.wrap IntKind.i64 (a + (1 : Int)), a_1, a_2, ()) ∧
 μ (IntKind.wrap IntKind.i64 (a + (1 : Int)), a_1, a_2, ()) <
 μ (a, a_1, a_2, ()))) ∧
 ((uSize
 (uNum
 (strBytes
 (ByteArray.extract x.fst (Int.toNat x.snd.fst)
 (Int.toNat (IntKind.wrap IntKind.i64 (x.snd.fst + a)))))) ==
 a) =
 false →
 ((IntKind.wrap IntKind.i64 (a + (1 : Int)) =
 IntKind.wrap IntKind.i64 (a + (1 : Int)) ∧
 x.fst = x.fst ∧ x.snd.fst = x.snd.fst ∧ True) ∧
 a_1 = a_1 ∧ a_2 = a_2) ∧
 Z (IntKind.wrap IntKind.i64 (a + (1 : Int)), a_1, a_2, ()) ∧
 μ (IntKind.wrap IntKind.i64 (a + (1 : Int)), a_1, a_2, ()) <
 μ (a, a_1, a_2, ()))) ∧
 (decide (a ≤ IntKind.wrap IntKind.i64 ((↑(ByteArray.size x.fst) : Int) - x.snd.fst)) =
 false →
 ((65533 : Int), (1 : Int), ()) = uStep x.fst x.snd.fst)) ∧
 (decide (a ≤ (4 : Int)) = false → ((65533 : Int), (1 : Int), ()) = uStep x.fst x.snd.fst)))
theorem vcEq50 : fnVC E50 Tryd.f50 (bodyOf Tryd.f50) cRStep = vc50 := by kernel_rfl
/- fn 52 -/
def hs52 : List (Nat × Nat × Hint) := []
def nm52 : List Nat := [3000000025]
noncomputable def E52 : Env := env tab [] [] gl hs52 nm52
def vc52 : Prop :=
 ∀ (x : (Int × Int × Unit) × Unit),
 True →
 (decide (x.fst.fst ≥ (0 : Int)) = true →
 (decide (x.fst.snd.fst ≥ x.fst.fst) = true → decide (x.fst.snd.fst ≤ (1099511627776 : Int)) = within x.fst) ∧
 (decide (x.fst.snd.fst ≥ x.fst.fst) = false → false = within x.fst)) ∧
 (decide (x.fst.fst ≥ (0 : Int)) = false → false = within x.fst)
theorem vcEq52 : fnVC E52 Tryd.f52 (bodyOf Tryd.f52) cWithin = vc52 := by kernel_rfl
/- fn 53 -/
def hs53 : List (Nat × Nat × Hint) := []
def nm53 : List Nat := [3000000025]
noncomputable def E53 : Env := env tab [] [] gl hs53 nm53
def vc53 : Prop :=
 ∀ (x : (Int × Int × Unit) × Unit), True → IntKind.wrap IntKind.i64 (x.fst.snd.fst - x.fst.fst) = size x.fst
theorem vcEq53 : fnVC E53 Tryd.f53 (bodyOf Tryd.f53) cSize = vc53 := by kernel_rfl
/- fn 54 -/
def hs54 : List (Nat × Nat × Hint) := []
def nm54 : List Nat := [3000000025]
noncomputable def E54 : Env := env tab [] [] gl hs54 nm54
def vc54 : Prop :=
 ∀ (x : (Int × Int × Unit) × Unit),
 True →
 (decide (x.fst.fst ≥ (0 : Int)) = true →
 (decide (x.fst.fst ≤ x.fst.snd.fst) = true → decide (x.fst.snd.fst ≤ (1099511627776 : Int)) = within x.fst) ∧
 (decide (x.fst.fst ≤ x.fst.snd.fst) = false → false = within x.fst)) ∧
 (decide (x.fst.fst ≥ (0 : Int)) = false → false = within x.fst)
theorem vcEq54 : fnVC E54 Tryd.f54 (bodyOf Tryd.f54) cWithin = vc54 := by kernel_rfl
/- fn 56 -/
def hs56 : List (Nat × Nat × Hint) := []
def nm56 : List Nat := [3000000025]
noncomputable def E56 : Env := env tab [] [] gl hs56 nm56
def vc56 : Prop :=
 ∀ (x : Int × Unit),
 True →
 (decide (x.fst ≥ (0 : Int)) = true →
 ((0 : Int) ≤ (3 : Int) ∧ (3 : Int) < (↑(4 : Nat) : Int)) ∧
 (decide (x.fst ≤ (1114111 : Int)) = true →
 (decide (x.fst < (55296 : Int)) = true → true = right x.fst) ∧
 (decide (x.fst < (55296 : Int)) = false → decide (x.fst > (57343 : Int)) = right x.fst)) ∧
 (decide (x.fst ≤ (1114111 : Int)) = false → false = right x.fst)) ∧
 (decide (x.fst ≥ (0 : Int)) = false → false = right x.fst)
theorem vcEq56 : fnVC E56 Tryd.f56 (bodyOf Tryd.f56) cRight = vc56 := by kernel_rfl
/- fn 68 -/
def hs68 : List (Nat × Nat × Hint) := [(0, 11, ⟨[.slot 3 t21, .slot 4 t3], [0], [], []⟩)]
def nm68 : List Nat := [3000000025]
noncomputable def E68 : Env := env tab [] [] gl hs68 nm68
def vc68 : Prop :=
 ∀ (x : ByteArray × Unit),
 (1 : Nat) ≤ ByteArray.size x.fst ∧ ByteArray.size x.fst ≤ (4 : Nat) →
 ((0 : Int) ≤ (0 : Int) ∧ (0 : Int) < (↑(ByteArray.size x.fst) : Int)) ∧
 (((↑(ByteArray.size x.fst) : Int) == (1 : Int)) = true →
 IntKind.wrap IntKind.i32 (↑(UInt8.toNat (Option.getD x.fst.data[Int.toNat (0 : Int)]? (0 : UInt8))) : Int) =
 uNum (strBytes x.fst)) ∧
 (((↑(ByteArray.size x.fst) : Int) == (1 : Int)) = false →
 (((↑(ByteArray.size x.fst) : Int) == (2 : Int)) = true →
 ((1 : Int) = (1 : Int) ∧
 IntKind.wrap IntKind.i32
 (IntKind.wrap IntKind.i32
 (↑(UInt8.toNat (Option.getD x.fst.data[Int.toNat (0 : Int)]? (0 : UInt8))) : Int) -
 (192 : Int)) =
 IntKind.wrap IntKind.i32
 (IntKind.wrap IntKind.i32
 (↑(UInt8.toNat (Option.getD x.fst.data[Int.toNat (0 : Int)]? (0 : UInt8))) : Int) -
 (192 : Int)) ∧
 x.fst = x.fst) ∧
 ∃ (Z : Int × Int × Unit → Prop),
 ∃ (μ : Int × Int × Unit → Nat),
 Z
 (IntKind.wrap IntKind.i32
 (IntKind.wrap IntKind.i32
 (↑(UInt8.toNat (Option.getD x.fst.data[Int.toNat (0 : Int)]? (0 : UInt8))) : Int) -
 (192 : Int)),
 (1 : Int), ()) ∧
 ∀ (a a_1 : Int),
 Z (a, a_1, ()) →
 (decide (a_1 < (↑(ByteArray.size x.fst) : Int)) = true →
 ((0 : Int) ≤ a_1 ∧ a_1 < (↑(ByteArray.size x.fst) : Int)) ∧
 (IntKind.wrap IntKind.i64 (a_1 + (1 : Int)) =
 IntKind.wrap IntKind.i64 (a_1 + (1 : Int)) ∧
 IntKind.wrap IntKind.i32
 (IntKind.wrap IntKind.i32
 (IntKind.wrap IntKind.i32 ((64 : Int) * a) +
 IntKind.wrap IntKind.i32
 (↑(UInt8.toNat (Option.getD x.fst.data[Int.toNat a_1]? (0 : UInt8))) :
 Int)) -
 (128 : Int)) =
 IntKind.wrap IntKind.i32
 (IntKind.wrap IntKind.i32
 (IntKind.wrap IntKind.i32 ((64 : Int) * a) +
 IntKind.wrap IntKind.i32
 (↑(UInt8.toNat (Option.getD x.fst.data[Int.toNat a_1]? (0 : UInt8))) :
 Int)) -
 (128 : Int)) ∧
 x.fst = x.fst) ∧
 Z
 (IntKind.wrap IntKind.i32
 (IntKind.wrap IntKind.i32
 (IntKind.wrap IntKind.i32 ((64 : Int) * a) +
 IntKind.wrap IntKind.i32
 (↑(UInt8.toNat (Option.getD x.fst.data[Int.toNat a_1]? (0 : UInt8))) :
 Int)) -
 (128 : Int)),
 IntKind.wrap IntKind.i64 (a_1 + (1 : Int)), ()) ∧
 μ
 (IntKind.wrap IntKind.i32
 (IntKind.wrap IntKind.i32
 (IntKind.wrap IntKind.i32 ((64 : Int) * a) +
 IntKind.wrap IntKind.i32
 (↑(UInt8.toNat
 (Option.getD x.fst.data[Int.toNat a_1]? (0 : UInt8))) :
 Int)) -
 (128 : Int)),
 IntKind.wrap IntKind.i64 (a_1 + (1 : Int)), ()) <
 μ (a, a_1, ())) ∧
 (decide (a_1 < (↑(ByteArray.size x.fst) : Int)) = false → a = uNum (strBytes x.fst))) ∧
 (((↑(ByteArray.size x.fst) : Int) == (2 : Int)) = false →
 (((↑(ByteArray.size x.fst) : Int) == (3 : Int)) = true →
 ((1 : Int) = (1 : Int) ∧
 IntKind.wrap IntKind.i32
 (IntKind.wrap IntKind.i32
 (↑(UInt8.toNat (Option.getD x.fst.data[Int.toNat (0 : Int)]? (0 : UInt8))) : Int) -
 (224 : Int)) =
 IntKind.wrap IntKind.i32
 (IntKind.wrap IntKind.i32
 (↑(UInt8.toNat (Option.getD x.fst.data[Int.toNat (0 : Int)]? (0 : UInt8))) : Int) -
 (224 : Int)) ∧
 x.fst = x.fst) ∧
 ∃ (Z : Int × Int × Unit → Prop),
 ∃ (μ : Int × Int × Unit → Nat),
 Z
 (IntKind.wrap IntKind.i32
 (IntKind.wrap IntKind.i32
 (↑(UInt8.toNat (Option.getD x.fst.data[Int.toNat (0 : Int)]? (0 : UInt8))) : Int) -
 (224 : Int)),
 (1 : Int), ()) ∧
 ∀ (a a_1 : Int),
 Z (a, a_1, ()) →
 (decide (a_1 < (↑(ByteArray.size x.fst) : Int)) = true →
 ((0 : Int) ≤ a_1 ∧ a_1 < (↑(ByteArray.size x.fst) : Int)) ∧
 (IntKind.wrap IntKind.i64 (a_1 + (1 : Int)) =
 IntKind.wrap IntKind.i64 (a_1 + (1 : Int)) ∧
 IntKind.wrap IntKind.i32
 (IntKind.wrap IntKind.i32
 (IntKind.wrap IntKind.i32 ((64 : Int) * a) +
 IntKind.wrap IntKind.i32
 (↑(UInt8.toNat
 (Option.getD x.fst.data[Int.toNat a_1]? (0 : UInt8))) :
 Int)) -
 (128 : Int)) =
 IntKind.wrap IntKind.i32
 (IntKind.wrap IntKind.i32
 (IntKind.wrap IntKind.i32 ((64 : Int) * a) +
 IntKind.wrap IntKind.i32
 (↑(UInt8.toNat
 (Option.getD x.fst.data[Int.toNat a_1]? (0 : UInt8))) :
 Int)) -
 (128 : Int)) ∧
 x.fst = x.fst) ∧
 Z
 (IntKind.wrap IntKind.i32
 (IntKind.wrap IntKind.i32
 (IntKind.wrap IntKind.i32 ((64 : Int) * a) +
 IntKind.wrap IntKind.i32
 (↑(UInt8.toNat
 (Option.getD x.fst.data[Int.toNat a_1]? (0 : UInt8))) :
 Int)) -
 (128 : Int)),
 IntKind.wrap IntKind.i64 (a_1 + (1 : Int)), ()) ∧
 μ
 (IntKind.wrap IntKind.i32
 (IntKind.wrap IntKind.i32
 (IntKind.wrap IntKind.i32 ((64 : Int) * a) +
 IntKind.wrap IntKind.i32
 (↑(UInt8.toNat
 (Option.getD x.fst.data[Int.toNat a_1]? (0 : UInt8))) :
 Int)) -
 (128 : Int)),
 IntKind.wrap IntKind.i64 (a_1 + (1 : Int)), ()) <
 μ (a, a_1, ())) ∧
 (decide (a_1 < (↑(ByteArray.size x.fst) : Int)) = false → a = uNum (strBytes x.fst))) ∧
 (((↑(ByteArray.size x.fst) : Int) == (3 : Int)) = false →
 ((1 : Int) = (1 : Int) ∧
 IntKind.wrap IntKind.i32
 (IntKind.wrap IntKind.i32
 (↑(UInt8.toNat (Option.getD x.fst.data[Int.toNat (0 : Int)]? (0 : UInt8))) : Int) -
 (240 : Int)) =
 IntKind.wrap IntKind.i32
 (IntKind.wrap IntKind.i32
 (↑(UInt8.toNat (Option.getD x.fst.data[Int.toNat (0 : Int)]? (0 : UInt8))) : Int) -
 (240 : Int)) ∧
 x.fst = x.fst) ∧
 ∃ (Z : Int × Int × Unit → Prop),
 ∃ (μ : Int × Int × Unit → Nat),
 Z
 (IntKind.wrap IntKind.i32
 (IntKind.wrap IntKind.i32
 (↑(UInt8.toNat (Option.getD x.fst.data[Int.toNat (0 : Int)]? (0 : UInt8))) : Int) -
 (240 : Int)),
 (1 : Int), ()) ∧
 ∀ (a a_1 : Int),
 Z (a, a_1, ()) →
 (decide (a_1 < (↑(ByteArray.size x.fst) : Int)) = true →
 ((0 : Int) ≤ a_1 ∧ a_1 < (↑(ByteArray.size x.fst) : Int)) ∧
 (IntKind.wrap IntKind.i64 (a_1 + (1 : Int)) =
 IntKind.wrap IntKind.i64 (a_1 + (1 : Int)) ∧
 IntKind.wrap IntKind.i32
 (IntKind.wrap IntKind.i32
 (IntKind.wrap IntKind.i32 ((64 : Int) * a) +
 IntKind.wrap IntKind.i32
 (↑(UInt8.toNat
 (Option.getD x.fst.data[Int.toNat a_1]? (0 : UInt8))) :
 Int)) -
 (128 : Int)) =
 IntKind.wrap IntKind.i32
 (IntKind.wrap IntKind.i32
 (IntKind.wrap IntKind.i32 ((64 : Int) * a) +
 IntKind.wrap IntKind.i32
 (↑(UInt8.toNat
 (Option.getD x.fst.data[Int.toNat a_1]? (0 : UInt8))) :
 Int)) -
 (128 : Int)) ∧
 x.fst = x.fst) ∧
 Z
 (IntKind.wrap IntKind.i32
 (IntKind.wrap IntKind.i32
 (IntKind.wrap IntKind.i32 ((64 : Int) * a) +
 IntKind.wrap IntKind.i32
 (↑(UInt8.toNat
 (Option.getD x.fst.data[Int.toNat a_1]? (0 : UInt8))) :
 Int)) -
 (128 : Int)),
 IntKind.wrap IntKind.i64 (a_1 + (1 : Int)), ()) ∧
 μ
 (IntKind.wrap IntKind.i32
 (IntKind.wrap IntKind.i32
 (IntKind.wrap IntKind.i32 ((64 : Int) * a) +
 IntKind.wrap IntKind.i32
 (↑(UInt8.toNat
 (Option.getD x.fst.data[Int.toNat a_1]? (0 : UInt8))) :
 Int)) -
 (128 : Int)),
 IntKind.wrap IntKind.i64 (a_1 + (1 : Int)), ()) <
 μ (a, a_1, ())) ∧
 (decide (a_1 < (↑(ByteArray.size x.fst) : Int)) = false → a = uNum (strBytes x.fst)))))
theorem vcEq68 : fnVC E68 Tryd.f68 (bodyOf Tryd.f68) cNumber = vc68 := by kernel_rfl
end Go.Fr.C13
