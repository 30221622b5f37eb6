/-
  Texts on which the proofs of the seat's statements stand: a symbolic walk, its soundness, the functions' conditions and their proofs (4). Conditions: none.
-/
import Derived.Test.YtgaafjjdcpibbaaGreatDoorG3
import Derived.Sort.Row
import Derived.Sort.Grow
import Derived.Shelf.SlSortCmp.Insertion
namespace Go.Fr.Z14
open Go Go.Fr Go.Proofs
set_option maxRecDepth 100000
def hs8 : List (Nat × Nat × Hint) := [(0, 7, ⟨[.rowS 5 900000005 t48 48, .slot 26 t3], [0, 1, 4, 24, 25], [4], []⟩),
  (0, 16, ⟨[.rowS 9 900000009 t48 48, .slot 10 t4, .slot 48 t3], [0, 1, 4, 7, 24, 25, 26, 46, 47], [4, 7], [900000005]⟩)]
def nm8 : List Nat := [3000000023]
noncomputable def E8 : Env := env tab [(25, cRefWrong), (27, cRDecode), (26, cREncode), (28, cAhead)] [] gl hs8 nm8
def vc8 : Prop :=
 ∀ (x : Int × List Inl × Unit),
 let y := x.snd.fst;
 let y_1 := x.fst;
 let y_2 := (↑(List.length y) : Int);
 let y_3 := newW y_1 y;
 List.length y ≤ maxLen ∧ shortL y →
 (decide (y_1 < (0 : Int)) = true → ((0 : Int), [], (1 : Int), ()) = y_3) ∧
 (decide (y_1 < (0 : Int)) = false →
 (decide (y_1 > (1099511627776 : Int)) = true → ((0 : Int), [], (1 : Int), ()) = y_3) ∧
 (decide (y_1 > (1099511627776 : Int)) = false →
 (decide (y_2 > (60 : Int)) = true → ((0 : Int), [], (5 : Int), ()) = y_3) ∧
 (decide (y_2 > (60 : Int)) = false →
 (((0 : Int) = (0 : Int) ∧ True ∧ y_1 = y_1 ∧ y = y ∧ True ∧ y = y ∧ y_2 = y_2) ∧
 ((0 : Int) = (0 : Int) ∧
 Value.slice none (0 : Nat) (0 : Nat) = Value.slice none (0 : Nat) (0 : Nat) ∧
 (0 : Int) = (0 : Int)) ∧
 True ∧ True) ∧
 ∃ (Z : List Inl × Int × Unit → Prop),
 ∃ (μ : List Inl × Int × Unit → Nat),
 Z ([], (0 : Int), ()) ∧
 ∀ (a : List Inl),
 let y_4 := (↑(List.length a) : Int);
 ∀ (a_1 : Int),
 let y_5 :=  ((List.getD y (Int.toNat a_1) (Ty.dflt t48)).fst,  (List.getD y (Int.toNat a_1) (Ty.dflt t48)).snd.fst,  (List.getD y (Int.toNat a_1) (Ty.dflt t48)).snd.snd.fst,  (List.getD y (Int.toNat a_1) (Ty.dflt t48)).snd.snd.snd.fst,  encode (decodeL (List.getD y (Int.toNat a_1) (Ty.dflt t48)).snd.snd.snd.snd.fst), ());
 let y_6 := (List.getD y (Int.toNat a_1) (Ty.dflt t48)).snd.snd;
 let y_7 := (List.getD y (Int.toNat a_1) (Ty.dflt t48)).snd.fst;
 let y_8 := (List.getD y (Int.toNat a_1) (Ty.dflt t48)).fst;
 let y_9 := IntKind.wrap IntKind.i64 (a_1 + (1 : Int));
 let y_10 := (a, a_1, ());
 let y_11 :=  wrongW y_1 (List.take (Int.toNat a_1) y) (List.getD y (Int.toNat a_1) (Ty.dflt t48));
 let y_12 := (y_9, ());
 let y_13 := y_6.snd.snd.fst;
 let y_14 := y_6.snd.fst;
 let y_15 := y_6.fst;
 let y_16 := [y_5];
 Z y_10 →
 (decide (a_1 < y_2) = true →
 ((0 : Int) ≤ a_1 ∧ a_1 < y_2) ∧
 ((0 : Int) ≤ a_1 ∧ a_1 ≤ y_2) ∧
 (List.length (List.take (Int.toNat a_1) y) ≤ maxLen ∧
 ByteArray.size (txt (List.getD y (Int.toNat a_1) (Ty.dflt t48))) ≤
 (1000000000 : Nat)) ∧
 ((y_11 != (0 : Int)) = true → ((0 : Int), [], y_11, ()) = y_3) ∧
 ((y_11 != (0 : Int)) = false →
 ByteArray.size y_13 ≤ (1000000000 : Nat) ∧
 List.length (decodeL y_13) ≤ (1000000000 : Nat) ∧
 (((0 : Int) = (0 : Int) ∧
 false = false ∧
 True ∧
 y_1 = y_1 ∧
 y = y ∧
 True ∧
 True ∧
 y = y ∧ y_2 = y_2 ∧ a_1 = a_1 ∧ True ∧ y_4 = y_4) ∧
 (((0 : Int) = (0 : Int) ∧
 Value.slice none (0 : Nat) (0 : Nat) =
 Value.slice none (0 : Nat) (0 : Nat) ∧
 (0 : Int) = (0 : Int)) ∧
 y_8 = y_8 ∧
 y_7 = y_7 ∧
 y_15 = y_15 ∧
 y_14 = y_14 ∧
 encode (decodeL y_13) = encode (decodeL y_13)) ∧
 True ∧ a = a ∧ True) ∧
 ∃ (Z_1 :
 List Inl ×
 Bool × Int × Unit →
 Prop),
 ∃ (μ_1 :
 List Inl ×
 Bool × Int × Unit →
 Nat),
 Z_1 ([], false, (0 : Int), ()) ∧
 ∀ (a_5 : List Inl),
 let y_17 := a_5 ++ y_16;
 let y_18 := List.length a_5 + List.length y_16;
 let y_19 := (a_5, y_12);
 let y_20 := (y_17, y_12);
 ∀ (a_6 : Bool) (a_7 : Int),
 let y_21 :=  (a_5 ++ [List.getD a (Int.toNat a_7) (Ty.dflt t48)], a_6,  IntKind.wrap IntKind.i64 (a_7 + (1 : Int)), ());
 let y_22 := (a_5, a_6, a_7, ());
 let y_23 := [List.getD a (Int.toNat a_7) (Ty.dflt t48)];
 let y_24 := IntKind.wrap IntKind.i64 (a_7 + (1 : Int));
 let y_25 := (y_17 ++ y_23, true, y_24, ());
 let y_26 := a_5 ++ y_23;
 let y_27 := List.length a_5 + List.length y_23;
 Z_1 y_22 →
 (decide (a_7 < y_4) = true →
 ((0 : Int) ≤ a_7 ∧ a_7 < y_4) ∧
 ((!a_6) = true →
 True ∧
 (aheadI y_5
 (List.getD a (Int.toNat a_7)
 (Ty.dflt t48)) =
 true →
 y_18 * (48 : Nat) ≤
 (140737488355328 : Nat) ∧
 y_18 ≤ maxLen ∧
 (List.length y_17 +
 List.length y_23) *
 (48 : Nat) ≤
 (140737488355328 : Nat) ∧
 List.length y_17 +
 List.length y_23 ≤
 maxLen ∧
 ((y_24 = y_24 ∧
 true = true ∧
 True ∧
 y_1 = y_1 ∧
 y = y ∧
 True ∧
 True ∧
 y = y ∧
 y_2 = y_2 ∧
 a_1 = a_1 ∧
 True ∧
 y_4 =
 y_4) ∧
 (((0 : Int) = (0 : Int) ∧
 Value.slice none
 (0 : Nat)
 (0 : Nat) =
 Value.slice none
 (0 : Nat)
 (0 : Nat) ∧
 (0 : Int) =
 (0 : Int)) ∧
 y_8 = y_8 ∧
 y_7 = y_7 ∧
 y_15 = y_15 ∧
 y_14 = y_14 ∧
 encode
 (decodeL
 y_13) =
 encode
 (decodeL
 y_13)) ∧
 y_17 ++ y_23 =
 y_17 ++ y_23 ∧
 a = a ∧ True) ∧
 Z_1 y_25 ∧
 μ_1 y_25 < μ_1 y_22) ∧
 (aheadI y_5
 (List.getD a (Int.toNat a_7)
 (Ty.dflt t48)) =
 false →
 y_27 * (48 : Nat) ≤
 (140737488355328 : Nat) ∧
 y_27 ≤ maxLen ∧
 ((y_24 = y_24 ∧
 a_6 = a_6 ∧
 True ∧
 y_1 = y_1 ∧
 y = y ∧
 True ∧
 True ∧
 y = y ∧
 y_2 = y_2 ∧
 a_1 = a_1 ∧
 True ∧
 y_4 = y_4) ∧
 (((0 : Int) = (0 : Int) ∧
 Value.slice none (0 : Nat)
 (0 : Nat) =
 Value.slice none
 (0 : Nat) (0 : Nat) ∧
 (0 : Int) = (0 : Int)) ∧
 y_8 = y_8 ∧
 y_7 = y_7 ∧
 y_15 = y_15 ∧
 y_14 = y_14 ∧
 encode
 (decodeL y_13) =
 encode
 (decodeL y_13)) ∧
 y_26 = y_26 ∧ a = a ∧ True) ∧
 Z_1 y_21 ∧ μ_1 y_21 < μ_1 y_22)) ∧
 ((!a_6) = false →
 y_27 * (48 : Nat) ≤ (140737488355328 : Nat) ∧
 y_27 ≤ maxLen ∧
 ((y_24 = y_24 ∧
 a_6 = a_6 ∧
 True ∧
 y_1 = y_1 ∧
 y = y ∧
 True ∧
 True ∧
 y = y ∧
 y_2 = y_2 ∧
 a_1 = a_1 ∧
 True ∧ y_4 = y_4) ∧
 (((0 : Int) = (0 : Int) ∧
 Value.slice none (0 : Nat)
 (0 : Nat) =
 Value.slice none (0 : Nat)
 (0 : Nat) ∧
 (0 : Int) = (0 : Int)) ∧
 y_8 = y_8 ∧
 y_7 = y_7 ∧
 y_15 = y_15 ∧
 y_14 = y_14 ∧
 encode (decodeL y_13) =
 encode (decodeL y_13)) ∧
 y_26 = y_26 ∧ a = a ∧ True) ∧
 Z_1 y_21 ∧ μ_1 y_21 < μ_1 y_22)) ∧
 (decide (a_7 < y_4) = false →
 ((!a_6) = true →
 y_18 * (48 : Nat) ≤ (140737488355328 : Nat) ∧
 y_18 ≤ maxLen ∧
 ((y_9 = y_9 ∧
 True ∧
 y_1 = y_1 ∧
 y = y ∧ True ∧ y = y ∧ y_2 = y_2) ∧
 ((0 : Int) = (0 : Int) ∧
 Value.slice none (0 : Nat) (0 : Nat) =
 Value.slice none (0 : Nat)
 (0 : Nat) ∧
 (0 : Int) = (0 : Int)) ∧
 y_17 = y_17 ∧ True) ∧
 Z y_20 ∧ μ y_20 < μ y_10) ∧
 ((!a_6) = false →
 ((y_9 = y_9 ∧
 True ∧
 y_1 = y_1 ∧
 y = y ∧ True ∧ y = y ∧ y_2 = y_2) ∧
 ((0 : Int) = (0 : Int) ∧
 Value.slice none (0 : Nat) (0 : Nat) =
 Value.slice none (0 : Nat) (0 : Nat) ∧
 (0 : Int) = (0 : Int)) ∧
 a_5 = a_5 ∧ True) ∧
 Z y_19 ∧ μ y_19 < μ y_10)))) ∧
 (decide (a_1 < y_2) = false → (y_1, a, (0 : Int), ()) = y_3))))
theorem vcEq8 : fnVC E8 Tryz.f8 (bodyOf Tryz.f8) cRefNew = vc8 := by kernel_rfl
def hs15 : List (Nat × Nat × Hint) := []
def nm15 : List Nat := [3000000023]
noncomputable def E15 : Env := env tab [(46, cClone)] [] gl hs15 nm15
def vc15 : Prop :=
 ∀ (x : Option (Int × List Inl × Unit) × Unit),
 List.length (allI x.fst) ≤ (10000 : Nat) →
 (Option.isNone x.fst = true → [] = allI x.fst) ∧
 (Option.isNone x.fst = false →
 Option.isSome x.fst = true ∧
 List.length (List.getD (optL x.fst) (0 : Nat) (Ty.dflt t64)).snd.fst ≤ (10000 : Nat) ∧
 (List.getD (optL x.fst) (0 : Nat) (Ty.dflt t64)).snd.fst = allI x.fst)
theorem vcEq15 : fnVC E15 Tryz.f15 (bodyOf Tryz.f15) cAll = vc15 := by kernel_rfl
def hs21 : List (Nat × Nat × Hint) := []
def nm21 : List Nat := [3000000023]
noncomputable def E21 : Env := env tab [(53, cCount), (54, cContains)] [] gl hs21 nm21
def vc21 : Prop :=
 ∀ (x : Int × Inl × Unit),
 let y := x.snd.fst.snd.snd.snd.snd.fst;
 let y_1 := x.snd.fst;
 let y_2 := y_1.snd.fst;
 let y_3 := y_1.snd.snd.fst;
 let y_4 := wrongI x.fst y_1;
 let y_5 := decide (y_1.fst < (1 : Int));
 let y_6 := decide (y_2 > x.fst);
 let y_7 := decide ((↑(List.length (decodeL y)) : Int) > (40 : Int));
 let y_8 := ByteArray.toList y == ByteArray.toList (ByteArray.mk #[]);
 ByteArray.size (txt y_1) ≤ maxLen →
 (y_5 = true → (1 : Int) = y_4) ∧
 (y_5 = false →
 (decide (y_2 < (0 : Int)) = true → (1 : Int) = y_4) ∧
 (decide (y_2 < (0 : Int)) = false →
 (y_6 = true → (1 : Int) = y_4) ∧
 (y_6 = false →
 ((y_3 != (0 : Int)) = true →
 ((y_3 != (1 : Int)) = true → (1 : Int) = y_4) ∧
 ((y_3 != (1 : Int)) = false →
 ByteArray.size y ≤ maxLen ∧
 (y_7 = true → (2 : Int) = y_4) ∧
 (y_7 = false →
 (y_8 = true → (4 : Int) = y_4) ∧
 (y_8 = false →
 (ByteArray.mk #[(10 : UInt8)]) = (ByteArray.mk #[(10 : UInt8)]) ∧
 (hasNL y = true → (4 : Int) = y_4) ∧ (hasNL y = false → (0 : Int) = y_4))))) ∧
 ((y_3 != (0 : Int)) = false →
 ByteArray.size y ≤ maxLen ∧
 (y_7 = true → (2 : Int) = y_4) ∧
 (y_7 = false →
 (y_8 = true → (4 : Int) = y_4) ∧
 (y_8 = false →
 (ByteArray.mk #[(10 : UInt8)]) = (ByteArray.mk #[(10 : UInt8)]) ∧
 (hasNL y = true → (4 : Int) = y_4) ∧ (hasNL y = false → (0 : Int) = y_4)))))))
theorem vcEq21 : fnVC E21 Tryz.f21 (bodyOf Tryz.f21) cWrong = vc21 := by kernel_rfl
def hs22 : List (Nat × Nat × Hint) := []
def nm22 : List Nat := [3000000023]
noncomputable def E22 : Env := env tab [(56, cDecode), (55, cEncode)] [] gl hs22 nm22
def vc22 : Prop :=
 ∀ (x : ByteArray × Unit),
 ByteArray.size x.fst ≤ (100000000 : Nat) →
 ByteArray.size x.fst ≤ (1000000000 : Nat) ∧
 List.length (decodeL x.fst) ≤ (1000000000 : Nat) ∧ encode (decodeL x.fst) = clean x.fst
theorem vcEq22 : fnVC E22 Tryz.f22 (bodyOf Tryz.f22) cClean = vc22 := by kernel_rfl
def hs24 : List (Nat × Nat × Hint) := []
def nm24 : List Nat := [3000000023]
noncomputable def E24 : Env := env tab [(60, cCmp), (59, cOr)] [] gl hs24 nm24
def vc24 : Prop :=
 ∀ (x : Inl × Inl × Unit),
 True →
 True ∧
 True ∧
 True ∧
 List.length
 [cmpI x.fst.snd.fst x.snd.fst.snd.fst, cmpI x.fst.snd.snd.snd.fst x.snd.fst.snd.snd.snd.fst,
 cmpI x.fst.fst x.snd.fst.fst] ≤
 maxLen ∧
 firstNZ
 [cmpI x.fst.snd.fst x.snd.fst.snd.fst, cmpI x.fst.snd.snd.snd.fst x.snd.fst.snd.snd.snd.fst,
 cmpI x.fst.fst x.snd.fst.fst] =
 cmpL x.fst x.snd.fst
theorem vcEq24 : fnVC E24 Tryz.f24 (bodyOf Tryz.f24) cOrder = vc24 := by kernel_rfl
def hs25 : List (Nat × Nat × Hint) := [(0, 9, ⟨[.slot 47 t3], [1, 5, 45, 46], [5], []⟩),
  (0, 15, ⟨[.slot 56 t3], [5, 54, 55], [5], []⟩)]
def nm25 : List Nat := [3000000023]
noncomputable def E25 : Env := env tab [(27, cRDecode)] [] gl hs25 nm25
def vc25 : Prop :=
 ∀ (x : Int × List Inl × Inl × Unit),
 let y := x.snd.snd.fst.snd.snd;
 let y_1 := x.snd.snd.fst;
 let y_2 := x.snd.fst;
 let y_3 := (↑(List.length y_2) : Int);
 let y_4 := y_1.snd.fst;
 let y_5 := wrongW x.fst y_2 y_1;
 let y_6 := y_1.fst;
 let y_7 := decide (y_4 > x.fst);
 let y_8 := y.snd.snd.fst;
 let y_9 := y.snd.fst;
 let y := y.fst;
 let y_10 := (↑(List.length (decodeL y_8)) : Int);
 let y_11 := decide (y_10 > (40 : Int));
 let y_12 := y_10 == (0 : Int);
 List.length y_2 ≤ maxLen ∧ ByteArray.size (txt y_1) ≤ (1000000000 : Nat) →
 (decide (y_6 < (1 : Int)) = true → (1 : Int) = y_5) ∧
 (decide (y_6 < (1 : Int)) = false →
 (decide (y_4 < (0 : Int)) = true → (1 : Int) = y_5) ∧
 (decide (y_4 < (0 : Int)) = false →
 (y_7 = true → (1 : Int) = y_5) ∧
 (y_7 = false →
 ((y != (0 : Int)) = true →
 ((y != (1 : Int)) = true → (1 : Int) = y_5) ∧
 ((y != (1 : Int)) = false →
 ByteArray.size y_8 ≤ (1000000000 : Nat) ∧
 (y_11 = true → (2 : Int) = y_5) ∧
 (y_11 = false →
 (y_12 = true → (4 : Int) = y_5) ∧
 (y_12 = false →
 (((0 : Int) = (0 : Int) ∧
 y_2 = y_2 ∧ True ∧ decodeL y_8 = decodeL y_8 ∧ y_10 = y_10) ∧
 y_6 = y_6 ∧ y_4 = y_4 ∧ y = y ∧ y_9 = y_9 ∧ y_8 = y_8) ∧
 ∃ (Z : Int × Unit → Prop),
 ∃ (μ : Int × Unit → Nat),
 Z ((0 : Int), ()) ∧
 ∀ (a : Int),
 let y_13 := IntKind.wrap IntKind.i64 (a + (1 : Int));
 Z (a, ()) →
 (decide (a < y_10) = true →
 ((0 : Int) ≤ a ∧ a < y_10) ∧
 ((List.getD (decodeL y_8) (Int.toNat a) (Ty.dflt t21) ==
 (10 : Int)) =
 true →
 (4 : Int) = y_5) ∧
 ((List.getD (decodeL y_8) (Int.toNat a) (Ty.dflt t21) ==
 (10 : Int)) =
 false →
 ((y_13 = y_13 ∧
 y_2 = y_2 ∧
 True ∧ decodeL y_8 = decodeL y_8 ∧ y_10 = y_10) ∧
 y_6 = y_6 ∧ y_4 = y_4 ∧ y = y ∧ y_9 = y_9 ∧ y_8 = y_8) ∧
 Z (y_13, ()) ∧ μ (y_13, ()) < μ (a, ()))) ∧
 (decide (a < y_10) = false →
 (((0 : Int) = (0 : Int) ∧ True ∧ y_2 = y_2 ∧ y_3 = y_3) ∧
 y_6 = y_6 ∧ y_4 = y_4 ∧ y = y ∧ y_9 = y_9 ∧ y_8 = y_8) ∧
 ∃ (Z : Int × Unit → Prop),
 ∃ (μ : Int × Unit → Nat),
 Z ((0 : Int), ()) ∧
 ∀ (a : Int),
 let y_14 := IntKind.wrap IntKind.i64 (a + (1 : Int));
 let y_15 :=  (List.getD y_2 (Int.toNat a) (Ty.dflt t48)).fst == y_6;
 Z (a, ()) →
 (decide (a < y_3) = true →
 ((0 : Int) ≤ a ∧ a < y_3) ∧
 (y_15 = true → (8 : Int) = y_5) ∧
 (y_15 = false →
 ((y_14 = y_14 ∧ True ∧ y_2 = y_2 ∧ y_3 = y_3) ∧
 y_6 = y_6 ∧
 y_4 = y_4 ∧
 y = y ∧ y_9 = y_9 ∧ y_8 = y_8) ∧
 Z (y_14, ()) ∧ μ (y_14, ()) < μ (a, ()))) ∧
 (decide (a < y_3) = false → (0 : Int) = y_5)))))) ∧
 ((y != (0 : Int)) = false →
 ByteArray.size y_8 ≤ (1000000000 : Nat) ∧
 (y_11 = true → (2 : Int) = y_5) ∧
 (y_11 = false →
 (y_12 = true → (4 : Int) = y_5) ∧
 (y_12 = false →
 (((0 : Int) = (0 : Int) ∧ y_2 = y_2 ∧ True ∧ decodeL y_8 = decodeL y_8 ∧ y_10 = y_10) ∧
 y_6 = y_6 ∧ y_4 = y_4 ∧ y = y ∧ y_9 = y_9 ∧ y_8 = y_8) ∧
 ∃ (Z : Int × Unit → Prop),
 ∃ (μ : Int × Unit → Nat),
 Z ((0 : Int), ()) ∧
 ∀ (a : Int),
 let y_13 := IntKind.wrap IntKind.i64 (a + (1 : Int));
 Z (a, ()) →
 (decide (a < y_10) = true →
 ((0 : Int) ≤ a ∧ a < y_10) ∧
 ((List.getD (decodeL y_8) (Int.toNat a) (Ty.dflt t21) == (10 : Int)) =
 true →
 (4 : Int) = y_5) ∧
 ((List.getD (decodeL y_8) (Int.toNat a) (Ty.dflt t21) == (10 : Int)) =
 false →
 ((y_13 = y_13 ∧
 y_2 = y_2 ∧ True ∧ decodeL y_8 = decodeL y_8 ∧ y_10 = y_10) ∧
 y_6 = y_6 ∧ y_4 = y_4 ∧ y = y ∧ y_9 = y_9 ∧ y_8 = y_8) ∧
 Z (y_13, ()) ∧ μ (y_13, ()) < μ (a, ()))) ∧
 (decide (a < y_10) = false →
 (((0 : Int) = (0 : Int) ∧ True ∧ y_2 = y_2 ∧ y_3 = y_3) ∧
 y_6 = y_6 ∧ y_4 = y_4 ∧ y = y ∧ y_9 = y_9 ∧ y_8 = y_8) ∧
 ∃ (Z : Int × Unit → Prop),
 ∃ (μ : Int × Unit → Nat),
 Z ((0 : Int), ()) ∧
 ∀ (a : Int),
 let y_14 := IntKind.wrap IntKind.i64 (a + (1 : Int));
 let y_15 :=  (List.getD y_2 (Int.toNat a) (Ty.dflt t48)).fst == y_6;
 Z (a, ()) →
 (decide (a < y_3) = true →
 ((0 : Int) ≤ a ∧ a < y_3) ∧
 (y_15 = true → (8 : Int) = y_5) ∧
 (y_15 = false →
 ((y_14 = y_14 ∧ True ∧ y_2 = y_2 ∧ y_3 = y_3) ∧
 y_6 = y_6 ∧
 y_4 = y_4 ∧ y = y ∧ y_9 = y_9 ∧ y_8 = y_8) ∧
 Z (y_14, ()) ∧ μ (y_14, ()) < μ (a, ()))) ∧
 (decide (a < y_3) = false → (0 : Int) = y_5))))))))
theorem vcEq25 : fnVC E25 Tryz.f25 (bodyOf Tryz.f25) cRefWrong = vc25 := by kernel_rfl
def hs26 : List (Nat × Nat × Hint) := [(0, 3, ⟨[.slot 3 t9, .slot 9 t3], [7, 8], [], []⟩)]
def nm26 : List Nat := [3000000023]
noncomputable def E26 : Env := env tab [(61, cUSize), (62, cOne)] [] gl hs26 nm26
def vc26 : Prop :=
 ∀ (x : List Int × Unit),
 let y := x.fst;
 let y_1 := (↑(List.length y) : Int);
 List.length y ≤ (1000000000 : Nat) →
 ((0 : Int) = (0 : Int) ∧ (ByteArray.mk #[]) = (ByteArray.mk #[]) ∧ y = y ∧ y_1 = y_1) ∧
 ∃ (Z : ByteArray × Int × Unit → Prop),
 ∃ (μ : ByteArray × Int × Unit → Nat),
 Z ((ByteArray.mk #[]), (0 : Int), ()) ∧
 ∀ (a : ByteArray),
 let y_2 := a ++ bytesOf (uBytes (65533 : Int) (3 : Int));
 ∀ (a_1 : Int),
 let y_3 := List.getD y (Int.toNat a_1) (Ty.dflt t21);
 let y_4 := IntKind.wrap IntKind.i64 (a_1 + (1 : Int));
 let y_5 := (a, a_1, ());
 let y_6 := (y_2, y_4, ());
 let y_7 := (a ++ bytesOf (uBytes y_3 (uSize y_3)), y_4, ());
 Z y_5 →
 (decide (a_1 < y_1) = true →
 ((0 : Int) ≤ a_1 ∧ a_1 < y_1) ∧
 True ∧
 ((uSize y_3 == (0 : Int)) = true →
 ((0 : Int) ≤ (65533 : Int) ∧
 (65533 : Int) ≤ (1114111 : Int) ∧ uSize (65533 : Int) = (3 : Int)) ∧
 ByteArray.size a + ByteArray.size (bytesOf (uBytes (65533 : Int) (3 : Int))) ≤
 (9223372036854775807 : Nat) ∧
 (y_4 = y_4 ∧ y_2 = y_2 ∧ y = y ∧ y_1 = y_1) ∧ Z y_6 ∧ μ y_6 < μ y_5) ∧
 ((uSize y_3 == (0 : Int)) = false →
 ((0 : Int) ≤ y_3 ∧ y_3 ≤ (1114111 : Int) ∧ uSize y_3 = uSize y_3) ∧
 ByteArray.size a + ByteArray.size (bytesOf (uBytes y_3 (uSize y_3))) ≤
 (9223372036854775807 : Nat) ∧
 (y_4 = y_4 ∧
 a ++ bytesOf (uBytes y_3 (uSize y_3)) = a ++ bytesOf (uBytes y_3 (uSize y_3)) ∧
 y = y ∧ y_1 = y_1) ∧
 Z y_7 ∧ μ y_7 < μ y_5)) ∧
 (decide (a_1 < y_1) = false → a = encode y)
theorem vcEq26 : fnVC E26 Tryz.f26 (bodyOf Tryz.f26) cREncode = vc26 := by kernel_rfl
def hs27 : List (Nat × Nat × Hint) := [(0, 3, ⟨[.rowS 3 900000003 t21 21, .slot 4 t3], [0], [], []⟩)]
def nm27 : List Nat := [3000000023]
noncomputable def E27 : Env := env tab [(63, cRStep)] [] gl hs27 nm27
def vc27 : Prop :=
 ∀ (x : ByteArray × Unit),
 ByteArray.size x.fst ≤ (1000000000 : Nat) →
 (((0 : Int) = (0 : Int) ∧ True ∧ x.fst = x.fst) ∧ True ∧ True) ∧
 ∃ (Z : List Int × Int × Unit → Prop),
 ∃ (μ : List Int × Int × Unit → Nat),
 Z ([], (0 : Int), ()) ∧
 ∀ (a : List Int) (a_1 : Int),
 Z (a, a_1, ()) →
 (decide (a_1 < (↑(ByteArray.size x.fst) : Int)) = true →
 ByteArray.size x.fst ≤ maxLen ∧
 (List.length a + List.length [(uStep x.fst a_1).fst]) * (4 : Nat) ≤ (140737488355328 : Nat) ∧
 List.length a + List.length [(uStep x.fst a_1).fst] ≤ maxLen ∧
 ((IntKind.wrap IntKind.i64 (a_1 + (uStep x.fst a_1).snd.fst) =
 IntKind.wrap IntKind.i64 (a_1 + (uStep x.fst a_1).snd.fst) ∧
 True ∧ x.fst = x.fst) ∧
 a ++ [(uStep x.fst a_1).fst] = a ++ [(uStep x.fst a_1).fst] ∧ True) ∧
 Z
 (a ++ [(uStep x.fst a_1).fst],
 IntKind.wrap IntKind.i64 (a_1 + (uStep x.fst a_1).snd.fst), ()) ∧
 μ
 (a ++ [(uStep x.fst a_1).fst],
 IntKind.wrap IntKind.i64 (a_1 + (uStep x.fst a_1).snd.fst), ()) <
 μ (a, a_1, ())) ∧
 (decide (a_1 < (↑(ByteArray.size x.fst) : Int)) = false → a = decodeL x.fst)
theorem vcEq27 : fnVC E27 Tryz.f27 (bodyOf Tryz.f27) cRDecode = vc27 := by kernel_rfl
def hs28 : List (Nat × Nat × Hint) := []
def nm28 : List Nat := [3000000023]
noncomputable def E28 : Env := env tab [] [] gl hs28 nm28
def vc28 : Prop :=
 ∀ (x : Inl × Inl × Unit),
 True →
 ((x.fst.snd.fst != x.snd.fst.snd.fst) = true →
 decide (x.fst.snd.fst < x.snd.fst.snd.fst) = aheadI x.fst x.snd.fst) ∧
 ((x.fst.snd.fst != x.snd.fst.snd.fst) = false →
 ((x.fst.snd.snd.snd.fst != x.snd.fst.snd.snd.snd.fst) = true →
 decide (x.fst.snd.snd.snd.fst < x.snd.fst.snd.snd.snd.fst) = aheadI x.fst x.snd.fst) ∧
 ((x.fst.snd.snd.snd.fst != x.snd.fst.snd.snd.snd.fst) = false →
 decide (x.fst.fst < x.snd.fst.fst) = aheadI x.fst x.snd.fst))
theorem vcEq28 : fnVC E28 Tryz.f28 (bodyOf Tryz.f28) cAhead = vc28 := by kernel_rfl
def hs31 : List (Nat × Nat × Hint) := []
def nm31 : List Nat := [3000000023]
noncomputable def E31 : Env := env tab [] [] gl hs31 nm31
def vc31 : Prop :=
 ∀ (x : Option (Int × List Inl × Unit) × Unit),
 True →
 (Option.isNone x.fst = true → (0 : Int) = lenI x.fst) ∧
 (Option.isNone x.fst = false →
 Option.isSome x.fst = true ∧ (List.getD (optL x.fst) (0 : Nat) (Ty.dflt t64)).fst = lenI x.fst)
theorem vcEq31 : fnVC E31 Tryz.f31 (bodyOf Tryz.f31) cLen = vc31 := by kernel_rfl
def hs46 : List (Nat × Nat × Hint) := []
def nm46 : List Nat := [1000000005, 3000000023]
noncomputable def E46 : Env := env tab [] [] gl hs46 nm46
def vc46 : Prop :=
 ∀ (x : List Inl × Unit),
 List.length x.fst ≤ (10000 : Nat) →
 ∀ (c : Bool),
 (c = true → List.length x.fst = (0 : Nat)) →
 (c = true → [] = x.fst) ∧
 (c = false →
 ((0 : Nat) + List.length x.fst) * (48 : Nat) ≤ (140737488355328 : Nat) ∧
 (0 : Nat) + List.length x.fst ≤ maxLen ∧ [] ++ x.fst = x.fst)
theorem vcEq46 : fnVC E46 Tryz.f46 (bodyOf Tryz.f46) cClone = vc46 := by kernel_rfl
def hs53 : List (Nat × Nat × Hint) := [(0, 3, ⟨[.slot 3 t3, .pos 5], [5], [5], []⟩)]
def nm53 : List Nat := [3000000023]
noncomputable def E53 : Env := env tab [] [] gl hs53 nm53
def vc53 : Prop :=
 ∀ (x : ByteArray × Unit),
 ByteArray.size x.fst ≤ maxLen →
 (((0 : Int) = (0 : Int) ∧ True) ∧ True ∧ x.fst = x.fst ∧ (0 : Nat) = (0 : Nat)) ∧
 ∃ (Z : Int × Nat × Unit → Prop),
 ∃ (μ : Int × Nat × Unit → Nat),
 Z ((0 : Int), (0 : Nat), ()) ∧
 ∀ (a : Int) (a_1 : Nat),
 Z (a, a_1, ()) →
 (decide (a_1 < ByteArray.size x.fst) = true →
 (true = true →
 ((IntKind.wrap IntKind.i64 (a + (1 : Int)) = IntKind.wrap IntKind.i64 (a + (1 : Int)) ∧ True) ∧
 True ∧
 x.fst = x.fst ∧ a_1 + (Utf8.decode x.fst a_1).snd = a_1 + (Utf8.decode x.fst a_1).snd) ∧
 Z (IntKind.wrap IntKind.i64 (a + (1 : Int)), a_1 + (Utf8.decode x.fst a_1).snd, ()) ∧
 μ (IntKind.wrap IntKind.i64 (a + (1 : Int)), a_1 + (Utf8.decode x.fst a_1).snd, ()) <
 μ (a, a_1, ())) ∧
 (true = false → a = (↑(List.length (decodeL x.fst)) : Int))) ∧
 (decide (a_1 < ByteArray.size x.fst) = false →
 (false = true →
 ((IntKind.wrap IntKind.i64 (a + (1 : Int)) = IntKind.wrap IntKind.i64 (a + (1 : Int)) ∧ True) ∧
 True ∧ x.fst = x.fst ∧ a_1 = a_1) ∧
 Z (IntKind.wrap IntKind.i64 (a + (1 : Int)), a_1, ()) ∧
 μ (IntKind.wrap IntKind.i64 (a + (1 : Int)), a_1, ()) < μ (a, a_1, ())) ∧
 (false = false → a = (↑(List.length (decodeL x.fst)) : Int)))
theorem vcEq53 : fnVC E53 Tryz.f53 (bodyOf Tryz.f53) cCount = vc53 := by kernel_rfl
def hs55 : List (Nat × Nat × Hint) := [(0, 3, ⟨[.rowS 3 900000003 t5 5, .slot 8 t3], [6, 7], [], []⟩)]
def nm55 : List Nat := [3000000023]
noncomputable def E55 : Env := env tab [(85, cRight)] [] gl hs55 nm55
def vc55 : Prop :=
 ∀ (x : List Int × Unit),
 let y := x.fst;
 let y_1 := (↑(List.length y) : Int);
 List.length y ≤ (1000000000 : Nat) →
 (((0 : Int) = (0 : Int) ∧ True ∧ y = y ∧ y_1 = y_1) ∧ True ∧ True) ∧
 ∃ (Z : List Int × Int × Unit → Prop),
 ∃ (μ : List Int × Int × Unit → Nat),
 Z ([], (0 : Int), ()) ∧
 ∀ (a : List Int),
 let y_2 := a ++ strBytes (Utf8.encode (65533 : Int));
 ∀ (a_1 : Int),
 let y_3 := IntKind.wrap IntKind.i64 (a_1 + (1 : Int));
 let y_4 := (a, a_1, ());
 let y_5 := a ++ strBytes (Utf8.encode (List.getD y (Int.toNat a_1) (Ty.dflt t21)));
 let y_6 :=  List.length a + List.length (strBytes (Utf8.encode (List.getD y (Int.toNat a_1) (Ty.dflt t21))));
 let y_7 := (y_5, y_3, ());
 let y_8 := (y_2, y_3, ());
 Z y_4 →
 (decide (a_1 < y_1) = true →
 ((0 : Int) ≤ a_1 ∧ a_1 < y_1) ∧
 True ∧
 ((!right (List.getD y (Int.toNat a_1) (Ty.dflt t21))) = true →
 (List.length a + List.length (strBytes (Utf8.encode (65533 : Int)))) * (1 : Nat) ≤
 (140737488355328 : Nat) ∧
 List.length a + List.length (strBytes (Utf8.encode (65533 : Int))) ≤ maxLen ∧
 ((y_3 = y_3 ∧ True ∧ y = y ∧ y_1 = y_1) ∧ y_2 = y_2 ∧ True) ∧ Z y_8 ∧ μ y_8 < μ y_4) ∧
 ((!right (List.getD y (Int.toNat a_1) (Ty.dflt t21))) = false →
 y_6 * (1 : Nat) ≤ (140737488355328 : Nat) ∧
 y_6 ≤ maxLen ∧
 ((y_3 = y_3 ∧ True ∧ y = y ∧ y_1 = y_1) ∧ y_5 = y_5 ∧ True) ∧
 Z y_7 ∧ μ y_7 < μ y_4)) ∧
 (decide (a_1 < y_1) = false → bytesOf a = encode y)
theorem vcEq55 : fnVC E55 Tryz.f55 (bodyOf Tryz.f55) cEncode = vc55 := by kernel_rfl
def hs56 : List (Nat × Nat × Hint) := [(0, 3, ⟨[.rowS 3 900000003 t21 21, .pos 7], [7], [7], []⟩)]
def nm56 : List Nat := [3000000023]
noncomputable def E56 : Env := env tab [] [] gl hs56 nm56
def vc56 : Prop :=
 ∀ (x : ByteArray × Unit),
 ByteArray.size x.fst ≤ (1000000000 : Nat) →
 ((True ∧ True) ∧ (True ∧ x.fst = x.fst ∧ (0 : Nat) = (0 : Nat)) ∧ True ∧ True) ∧
 ∃ (Z : List Int × Nat × Unit → Prop),
 ∃ (μ : List Int × Nat × Unit → Nat),
 Z ([], (0 : Nat), ()) ∧
 ∀ (a : List Int) (a_1 : Nat),
 Z (a, a_1, ()) →
 (decide (a_1 < ByteArray.size x.fst) = true →
 (true = true →
 (List.length a + List.length [(↑(Utf8.decode x.fst a_1).fst : Int)]) * (4 : Nat) ≤
 (140737488355328 : Nat) ∧
 List.length a + List.length [(↑(Utf8.decode x.fst a_1).fst : Int)] ≤ maxLen ∧
 ((True ∧ True) ∧
 (True ∧
 x.fst = x.fst ∧
 a_1 + (Utf8.decode x.fst a_1).snd = a_1 + (Utf8.decode x.fst a_1).snd) ∧
 a ++ [(↑(Utf8.decode x.fst a_1).fst : Int)] =
 a ++ [(↑(Utf8.decode x.fst a_1).fst : Int)] ∧
 True) ∧
 Z (a ++ [(↑(Utf8.decode x.fst a_1).fst : Int)], a_1 + (Utf8.decode x.fst a_1).snd, ()) ∧
 μ (a ++ [(↑(Utf8.decode x.fst a_1).fst : Int)], a_1 + (Utf8.decode x.fst a_1).snd, ()) <
 μ (a, a_1, ())) ∧
 (true = false → a = decodeL x.fst)) ∧
 (decide (a_1 < ByteArray.size x.fst) = false →
 (false = true → False) ∧ (false = false → a = decodeL x.fst))
theorem vcEq56 : fnVC E56 Tryz.f56 (bodyOf Tryz.f56) cDecode = vc56 := by kernel_rfl
def hs59 : List (Nat × Nat × Hint) := [(0, 3, ⟨[.slot 8 t3], [3, 6, 7], [], []⟩)]
def nm59 : List Nat := [3000000023]
noncomputable def E59 : Env := env tab [] [] gl hs59 nm59
def vc59 : Prop :=
 ∀ (x : List Int × Unit),
 List.length x.fst ≤ maxLen →
 ((0 : Int) = (0 : Int) ∧
 (0 : Int) = (0 : Int) ∧ x.fst = x.fst ∧ (↑(List.length x.fst) : Int) = (↑(List.length x.fst) : Int)) ∧
 ∃ (Z : Int × Unit → Prop),
 ∃ (μ : Int × Unit → Nat),
 Z ((0 : Int), ()) ∧
 ∀ (a : Int),
 Z (a, ()) →
 (decide (a < (↑(List.length x.fst) : Int)) = true →
 ((0 : Int) ≤ a ∧ a < (↑(List.length x.fst) : Int)) ∧
 ((List.getD x.fst (Int.toNat a) (Ty.dflt t3) != (0 : Int)) = true →
 List.getD x.fst (Int.toNat a) (Ty.dflt t3) = firstNZ x.fst) ∧
 ((List.getD x.fst (Int.toNat a) (Ty.dflt t3) != (0 : Int)) = false →
 (IntKind.wrap IntKind.i64 (a + (1 : Int)) = IntKind.wrap IntKind.i64 (a + (1 : Int)) ∧
 (0 : Int) = (0 : Int) ∧
 x.fst = x.fst ∧ (↑(List.length x.fst) : Int) = (↑(List.length x.fst) : Int)) ∧
 Z (IntKind.wrap IntKind.i64 (a + (1 : Int)), ()) ∧
 μ (IntKind.wrap IntKind.i64 (a + (1 : Int)), ()) < μ (a, ()))) ∧
 (decide (a < (↑(List.length x.fst) : Int)) = false → (0 : Int) = firstNZ x.fst)
theorem vcEq59 : fnVC E59 Tryz.f59 (bodyOf Tryz.f59) cOr = vc59 := by kernel_rfl
def hs60 : List (Nat × Nat × Hint) := []
def nm60 : List Nat := [3000000023]
noncomputable def E60 : Env := env tab [] [(96, Tryz.f96)] gl hs60 nm60
def vc60 : Prop :=
 ∀ (x : Int × Int × Unit),
 True →
 ((x.fst != x.fst) = true →
 ((x.snd.fst != x.snd.fst) = true → (0 : Int) = cmpI x.fst x.snd.fst) ∧
 ((x.snd.fst != x.snd.fst) = false → (-1 : Int) = cmpI x.fst x.snd.fst)) ∧
 ((x.fst != x.fst) = false →
 ((x.snd.fst != x.snd.fst) = true → (1 : Int) = cmpI x.fst x.snd.fst) ∧
 ((x.snd.fst != x.snd.fst) = false →
 (decide (x.fst < x.snd.fst) = true → (-1 : Int) = cmpI x.fst x.snd.fst) ∧
 (decide (x.fst < x.snd.fst) = false →
 (decide (x.fst > x.snd.fst) = true → (1 : Int) = cmpI x.fst x.snd.fst) ∧
 (decide (x.fst > x.snd.fst) = false → (0 : Int) = cmpI x.fst x.snd.fst))))
theorem vcEq60 : fnVC E60 Tryz.f60 (bodyOf Tryz.f60) cCmp = vc60 := by kernel_rfl
def hs61 : List (Nat × Nat × Hint) := []
def nm61 : List Nat := [3000000023]
noncomputable def E61 : Env := env tab [] [] gl hs61 nm61
def vc61 : Prop :=
 ∀ (x : Int × Unit),
 True →
 (decide (x.fst < (0 : Int)) = true → (0 : Int) = uSize x.fst) ∧
 (decide (x.fst < (0 : Int)) = false →
 (decide (x.fst > (1114111 : Int)) = true → (0 : Int) = uSize x.fst) ∧
 (decide (x.fst > (1114111 : Int)) = false →
 (decide (x.fst ≥ (55296 : Int)) = true →
 (decide (x.fst ≤ (57343 : Int)) = true → (0 : Int) = uSize x.fst) ∧
 (decide (x.fst ≤ (57343 : Int)) = false →
 (decide (x.fst < (128 : Int)) = true → (1 : Int) = uSize x.fst) ∧
 (decide (x.fst < (128 : Int)) = false →
 (decide (x.fst < (2048 : Int)) = true → (2 : Int) = uSize x.fst) ∧
 (decide (x.fst < (2048 : Int)) = false →
 (decide (x.fst < (65536 : Int)) = true → (3 : Int) = uSize x.fst) ∧
 (decide (x.fst < (65536 : Int)) = false → (4 : Int) = uSize x.fst))))) ∧
 (decide (x.fst ≥ (55296 : Int)) = false →
 (decide (x.fst < (128 : Int)) = true → (1 : Int) = uSize x.fst) ∧
 (decide (x.fst < (128 : Int)) = false →
 (decide (x.fst < (2048 : Int)) = true → (2 : Int) = uSize x.fst) ∧
 (decide (x.fst < (2048 : Int)) = false →
 (decide (x.fst < (65536 : Int)) = true → (3 : Int) = uSize x.fst) ∧
 (decide (x.fst < (65536 : Int)) = false → (4 : Int) = uSize x.fst))))))
theorem vcEq61 : fnVC E61 Tryz.f61 (bodyOf Tryz.f61) cUSize = vc61 := by kernel_rfl
def hs62 : List (Nat × Nat × Hint) := []
def nm62 : List Nat := [3000000023]
noncomputable def E62 : Env := env tab [] [] gl hs62 nm62
def vc62 : Prop :=
 ∀ (x : Int × Int × Unit),
 (0 : Int) ≤ x.fst ∧ x.fst ≤ (1114111 : Int) ∧ uSize x.fst = x.snd.fst →
 ((x.snd.fst == (1 : Int)) = true → bytesOf [IntKind.wrap IntKind.u8 x.fst] = bytesOf (uBytes x.fst x.snd.fst)) ∧
 ((x.snd.fst == (1 : Int)) = false →
 ((x.snd.fst == (2 : Int)) = true →
 (64 : Int) ≠ (0 : Int) ∧
 (64 : Int) ≠ (0 : Int) ∧
 bytesOf
 [IntKind.wrap IntKind.u8
 (IntKind.wrap IntKind.i32 ((192 : Int) + IntKind.wrap IntKind.i32 (Int.tdiv x.fst (64 : Int)))),
 IntKind.wrap IntKind.u8 (IntKind.wrap IntKind.i32 ((128 : Int) + Int.tmod x.fst (64 : Int)))] =
 bytesOf (uBytes x.fst x.snd.fst)) ∧
 ((x.snd.fst == (2 : Int)) = false →
 ((x.snd.fst == (3 : Int)) = true →
 (4096 : Int) ≠ (0 : Int) ∧
 (64 : Int) ≠ (0 : Int) ∧
 (64 : Int) ≠ (0 : Int) ∧
 (64 : Int) ≠ (0 : Int) ∧
 bytesOf
 [IntKind.wrap IntKind.u8
 (IntKind.wrap IntKind.i32
 ((224 : Int) + IntKind.wrap IntKind.i32 (Int.tdiv x.fst (4096 : Int)))),
 IntKind.wrap IntKind.u8
 (IntKind.wrap IntKind.i32
 ((128 : Int) +
 Int.tmod (IntKind.wrap IntKind.i32 (Int.tdiv x.fst (64 : Int))) (64 : Int))),
 IntKind.wrap IntKind.u8
 (IntKind.wrap IntKind.i32 ((128 : Int) + Int.tmod x.fst (64 : Int)))] =
 bytesOf (uBytes x.fst x.snd.fst)) ∧
 ((x.snd.fst == (3 : Int)) = false →
 (262144 : Int) ≠ (0 : Int) ∧
 (4096 : Int) ≠ (0 : Int) ∧
 (64 : Int) ≠ (0 : Int) ∧
 (64 : Int) ≠ (0 : Int) ∧
 (64 : Int) ≠ (0 : Int) ∧
 (64 : Int) ≠ (0 : Int) ∧
 bytesOf
 [IntKind.wrap IntKind.u8
 (IntKind.wrap IntKind.i32
 ((240 : Int) + IntKind.wrap IntKind.i32 (Int.tdiv x.fst (262144 : Int)))),
 IntKind.wrap IntKind.u8
 (IntKind.wrap IntKind.i32
 ((128 : Int) +
 Int.tmod (IntKind.wrap IntKind.i32 (Int.tdiv x.fst (4096 : Int))) (64 : Int))),
 IntKind.wrap IntKind.u8
 (IntKind.wrap IntKind.i32
 ((128 : Int) +
 Int.tmod (IntKind.wrap IntKind.i32 (Int.tdiv x.fst (64 : Int))) (64 : Int))),
 IntKind.wrap IntKind.u8
 (IntKind.wrap IntKind.i32 ((128 : Int) + Int.tmod x.fst (64 : Int)))] =
 bytesOf (uBytes x.fst x.snd.fst))))
theorem vcEq62 : fnVC E62 Tryz.f62 (bodyOf Tryz.f62) cOne = vc62 := by kernel_rfl
def hs63 : List (Nat × Nat × Hint) := [(0, 4, ⟨[.slot 5 t3, .cell 4 0 t21, .cell 4 1 t3], [0, 1, 4], [4], []⟩)]
def nm63 : List Nat := [3000000023]
noncomputable def E63 : Env := env tab [(97, cNumber), (61, cUSize), (62, cOne)] [] gl hs63 nm63
def vc63 : Prop :=
 ∀ (x : ByteArray × Int × Unit),
 let y := x.snd.fst;
 let y_1 := x.fst;
 let y_2 := IntKind.wrap IntKind.i64 ((↑(ByteArray.size y_1) : Int) - y);
 let y_3 := uStep y_1 y;
 let y_4 := decide (y ≥ (↑(ByteArray.size y_1) : Int));
 ByteArray.size y_1 ≤ maxLen →
 (decide (y < (0 : Int)) = true → ((0 : Int), (0 : Int), ()) = y_3) ∧
 (decide (y < (0 : Int)) = false →
 (y_4 = true → ((0 : Int), (0 : Int), ()) = y_3) ∧
 (y_4 = false →
 (((1 : Int) = (1 : Int) ∧ y_1 = y_1 ∧ y = y ∧ True) ∧ (0 : Int) = (0 : Int) ∧ (0 : Int) = (0 : Int)) ∧
 ∃ (Z : Int × Int × Int × Unit → Prop),
 ∃ (μ : Int × Int × Int × Unit → Nat),
 Z ((1 : Int), (0 : Int), (0 : Int), ()) ∧
 ∀ (a : Int),
 let y_5 := ByteArray.extract y_1 (Int.toNat y) (Int.toNat (IntKind.wrap IntKind.i64 (y + a)));
 let y_6 := IntKind.wrap IntKind.i64 (a + (1 : Int));
 ∀ (a_1 a_2 : Int),
 let y_7 := (a_1, a_2, ());
 let y_8 := (y_6, y_7);
 let y_9 := (a, y_7);
 Z y_9 →
 (decide (a ≤ (4 : Int)) = true →
 (decide (a ≤ y_2) = true →
 ((0 : Int) ≤ y ∧
 y ≤ IntKind.wrap IntKind.i64 (y + a) ∧
 IntKind.wrap IntKind.i64 (y + a) ≤ (↑(ByteArray.size y_1) : Int)) ∧
 ((1 : Nat) ≤ ByteArray.size y_5 ∧ ByteArray.size y_5 ≤ (4 : Nat)) ∧
 True ∧
 ((uSize (uNum (strBytes y_5)) == a) = true →
 ((0 : Int) ≤ uNum (strBytes y_5) ∧
 uNum (strBytes y_5) ≤ (1114111 : Int) ∧
 uSize (uNum (strBytes y_5)) = a) ∧
 ((ByteArray.toList (bytesOf (uBytes (uNum (strBytes y_5)) a)) ==
 ByteArray.toList y_5) =
 true →
 (uNum (strBytes y_5), a, ()) = y_3) ∧
 ((ByteArray.toList (bytesOf (uBytes (uNum (strBytes y_5)) a)) ==
 ByteArray.toList y_5) =
 false →
 ((y_6 = y_6 ∧ y_1 = y_1 ∧ y = y ∧ True) ∧ a_1 = a_1 ∧ a_2 = a_2) ∧
 Z y_8 ∧ μ y_8 < μ y_9)) ∧
 ((uSize (uNum (strBytes y_5)) == a) = false →
 ((y_6 = y_6 ∧ y_1 = y_1 ∧ y = y ∧ True) ∧ a_1 = a_1 ∧ a_2 = a_2) ∧
 Z y_8 ∧ μ y_8 < μ y_9)) ∧
 (decide (a ≤ y_2) = false → ((65533 : Int), (1 : Int), ()) = y_3)) ∧
 (decide (a ≤ (4 : Int)) = false → ((65533 : Int), (1 : Int), ()) = y_3)))
theorem vcEq63 : fnVC E63 Tryz.f63 (bodyOf Tryz.f63) cRStep = vc63 := by kernel_rfl
def hs85 : List (Nat × Nat × Hint) := []
def nm85 : List Nat := [3000000023]
noncomputable def E85 : Env := env tab [] [] gl hs85 nm85
def vc85 : Prop :=
 ∀ (x : Int × Unit),
 True →
 (decide (x.fst ≥ (0 : Int)) = true →
 ((0 : Int) ≤ (3 : Int) ∧ (3 : Int) < (↑(4 : Nat) : Int)) ∧
 (decide (x.fst ≤ (1114111 : Int)) = true →
 (decide (x.fst < (55296 : Int)) = true → true = right x.fst) ∧
 (decide (x.fst < (55296 : Int)) = false → decide (x.fst > (57343 : Int)) = right x.fst)) ∧
 (decide (x.fst ≤ (1114111 : Int)) = false → false = right x.fst)) ∧
 (decide (x.fst ≥ (0 : Int)) = false → false = right x.fst)
theorem vcEq85 : fnVC E85 Tryz.f85 (bodyOf Tryz.f85) cRight = vc85 := by kernel_rfl
def hs97 : List (Nat × Nat × Hint) := [(0, 11, ⟨[.slot 3 t21, .slot 4 t3], [0], [], []⟩)]
def nm97 : List Nat := [3000000023]
noncomputable def E97 : Env := env tab [] [] gl hs97 nm97
def vc97 : Prop :=
 ∀ (x : ByteArray × Unit),
 let y := IntKind.wrap IntKind.i32 (↑(UInt8.toNat (Option.getD x.fst.data[Int.toNat (0 : Int)]? (0 : UInt8))) : Int);
 let y_1 := x.fst;
 let y_2 := (↑(ByteArray.size y_1) : Int);
 let y_3 := IntKind.wrap IntKind.i32 (y - (192 : Int));
 let y_4 := IntKind.wrap IntKind.i32 (y - (240 : Int));
 let y_5 := IntKind.wrap IntKind.i32 (y - (224 : Int));
 (1 : Nat) ≤ ByteArray.size y_1 ∧ ByteArray.size y_1 ≤ (4 : Nat) →
 ((0 : Int) ≤ (0 : Int) ∧ (0 : Int) < y_2) ∧
 ((y_2 == (1 : Int)) = true → y = uNum (strBytes y_1)) ∧
 ((y_2 == (1 : Int)) = false →
 ((y_2 == (2 : Int)) = true →
 ((1 : Int) = (1 : Int) ∧ y_3 = y_3 ∧ y_1 = y_1) ∧
 ∃ (Z : Int × Int × Unit → Prop),
 ∃ (μ : Int × Int × Unit → Nat),
 Z (y_3, (1 : Int), ()) ∧
 ∀ (a : Int),
 let y := IntKind.wrap IntKind.i32 ((64 : Int) * a);
 ∀ (a_1 : Int),
 let y :=  IntKind.wrap IntKind.i32  (IntKind.wrap IntKind.i32  (y +  IntKind.wrap IntKind.i32  (↑(UInt8.toNat (Option.getD y_1.data[Int.toNat a_1]? (0 : UInt8))) : Int)) -  (128 : Int));
 let y_6 := (a, a_1, ());
 let y_7 := IntKind.wrap IntKind.i64 (a_1 + (1 : Int));
 let y_8 := (y, y_7, ());
 Z y_6 →
 (decide (a_1 < y_2) = true →
 ((0 : Int) ≤ a_1 ∧ a_1 < y_2) ∧
 (y_7 = y_7 ∧ y = y ∧ y_1 = y_1) ∧ Z y_8 ∧ μ y_8 < μ y_6) ∧
 (decide (a_1 < y_2) = false → a = uNum (strBytes y_1))) ∧
 ((y_2 == (2 : Int)) = false →
 ((y_2 == (3 : Int)) = true →
 ((1 : Int) = (1 : Int) ∧ y_5 = y_5 ∧ y_1 = y_1) ∧
 ∃ (Z : Int × Int × Unit → Prop),
 ∃ (μ : Int × Int × Unit → Nat),
 Z (y_5, (1 : Int), ()) ∧
 ∀ (a : Int),
 let y := IntKind.wrap IntKind.i32 ((64 : Int) * a);
 ∀ (a_1 : Int),
 let y :=  IntKind.wrap IntKind.i32  (IntKind.wrap IntKind.i32  (y +  IntKind.wrap IntKind.i32  (↑(UInt8.toNat (Option.getD y_1.data[Int.toNat a_1]? (0 : UInt8))) : Int)) -  (128 : Int));
 let y_6 := (a, a_1, ());
 let y_7 := IntKind.wrap IntKind.i64 (a_1 + (1 : Int));
 let y_8 := (y, y_7, ());
 Z y_6 →
 (decide (a_1 < y_2) = true →
 ((0 : Int) ≤ a_1 ∧ a_1 < y_2) ∧
 (y_7 = y_7 ∧ y = y ∧ y_1 = y_1) ∧ Z y_8 ∧ μ y_8 < μ y_6) ∧
 (decide (a_1 < y_2) = false → a = uNum (strBytes y_1))) ∧
 ((y_2 == (3 : Int)) = false →
 ((1 : Int) = (1 : Int) ∧ y_4 = y_4 ∧ y_1 = y_1) ∧
 ∃ (Z : Int × Int × Unit → Prop),
 ∃ (μ : Int × Int × Unit → Nat),
 Z (y_4, (1 : Int), ()) ∧
 ∀ (a : Int),
 let y := IntKind.wrap IntKind.i32 ((64 : Int) * a);
 ∀ (a_1 : Int),
 let y :=  IntKind.wrap IntKind.i32  (IntKind.wrap IntKind.i32  (y +  IntKind.wrap IntKind.i32  (↑(UInt8.toNat (Option.getD y_1.data[Int.toNat a_1]? (0 : UInt8))) : Int)) -  (128 : Int));
 let y_6 := (a, a_1, ());
 let y_7 := IntKind.wrap IntKind.i64 (a_1 + (1 : Int));
 let y_8 := (y, y_7, ());
 Z y_6 →
 (decide (a_1 < y_2) = true →
 ((0 : Int) ≤ a_1 ∧ a_1 < y_2) ∧
 (y_7 = y_7 ∧ y = y ∧ y_1 = y_1) ∧ Z y_8 ∧ μ y_8 < μ y_6) ∧
 (decide (a_1 < y_2) = false → a = uNum (strBytes y_1)))))
theorem vcEq97 : fnVC E97 Tryz.f97 (bodyOf Tryz.f97) cNumber = vc97 := by kernel_rfl
end Go.Fr.Z14
namespace Go.Fr.Z14
open Go Go.Fr Go.Proofs
theorem right_iff {r : Int} : right r = true ↔ 0 ≤ r ∧ r ≤ 1114111 ∧ (r < 55296 ∨ r > 57343) := by simp [right]
theorem right_no {r : Int} : right r = false ↔ ¬ (0 ≤ r ∧ r ≤ 1114111 ∧ (r < 55296 ∨ r > 57343)) := by rw [← right_iff]; simp
theorem p85 : vc85 := by
  unfold vc85
  simp only [decide_eq_true_eq, decide_eq_false_iff_not]
  rintro ⟨r, ⟨⟩⟩ _
  simp only
  refine ⟨fun h1 => ⟨by decide, fun h2 => ⟨fun h3 => ?_, fun h3 => ?_⟩, fun h2 => ?_⟩, fun h1 => ?_⟩
  · exact (right_iff.2 (by omega)).symm
  · rw [Bool.eq_iff_iff, decide_eq_true_eq, right_iff]; omega
  · exact (right_no.2 (by omega)).symm
  · exact (right_no.2 (by omega)).symm
theorem p61 : vc61 := by
  unfold vc61
  simp only [decide_eq_true_eq, decide_eq_false_iff_not]
  intro x _
  unfold uSize
  (repeat' (first | apply And.intro | intro _))
  all_goals (repeat' split)
  all_goals omega
theorem sizeR_1 {r : Int} (h : right r = true) : sizeR r = if r ≤ 127 then 1 else if r ≤ 2047 then 2 else if r ≤ 65535 then 3 else 4 := by
  rw [right_iff] at h
  unfold sizeR uSize
  repeat' split
  all_goals omega
theorem sizeR_0 {r : Int} (h : right r = false) : sizeR r = 3 := by
  rw [right_no] at h
  unfold sizeR uSize
  repeat' split
  all_goals omega
theorem bytesOf_congr {a b : List Int} (h : a = b) : bytesOf a = bytesOf b := by rw [h]
theorem p62 : vc62 := by
  unfold vc62
  simp only [beq_iff_eq, beq_eq_false_iff_ne, ne_eq]
  rintro ⟨r, n, ⟨⟩⟩
  simp only
  rintro ⟨h0, h1, hn⟩
  have t1 : ∀ d : Int, Int.tdiv r d = r / d := fun d => Int.tdiv_eq_ediv_of_nonneg h0
  have t2 : ∀ d : Int, Int.tmod r d = r % d := fun d => Int.tmod_eq_emod_of_nonneg h0
  have q64 : 0 ≤ r / 64 := by omega
  have q4096 : 0 ≤ r / 4096 := by omega
  have w1 : IntKind.i32.wrap (r / 64) = r / 64 := by rw [wrap32_eq]; omega
  have w2 : IntKind.i32.wrap (r / 4096) = r / 4096 := by rw [wrap32_eq]; omega
  have t3 : ∀ d : Int, Int.tmod (r / 64) d = r / 64 % d := fun d => Int.tmod_eq_emod_of_nonneg q64
  have t4 : ∀ d : Int, Int.tmod (r / 4096) d = r / 4096 % d := fun d => Int.tmod_eq_emod_of_nonneg q4096
  simp only [t1, t2, w1, w2, t3, t4]
  refine ⟨fun e => ?_, fun e1 => ⟨fun e => ⟨by decide, ?_⟩, fun e2 => ⟨fun e => ⟨by decide, by decide, ?_⟩, fun e3 => ⟨by decide, by decide, by decide, ?_⟩⟩⟩⟩
  · subst e
    have := uSize_1.1 hn
    refine bytesOf_congr ?_
    simp only [uBytes, if_true, wrap8_eq, List.cons.injEq, and_true]
    omega
  · subst e
    have := uSize_2.1 hn
    refine ⟨by decide, bytesOf_congr ?_⟩
    unfold uBytes
    rw [if_neg (by decide), if_pos rfl]
    simp only [wrap8_eq, wrap32_eq, List.cons.injEq, and_true]
    omega
  · subst e
    have := uSize_3.1 hn
    refine ⟨by decide, by decide, bytesOf_congr ?_⟩
    unfold uBytes
    rw [if_neg (by decide), if_neg (by decide), if_pos rfl]
    simp only [wrap8_eq, wrap32_eq, List.cons.injEq, and_true]
    omega
  · refine ⟨by decide, by decide, by decide, bytesOf_congr ?_⟩
    unfold uBytes
    rw [if_neg e1, if_neg e2, if_neg e3]
    simp only [wrap8_eq, wrap32_eq, List.cons.injEq, and_true]
    omega
theorem uBytes_bd {r n : Int} (h0 : 0 ≤ r) (h1 : r ≤ 1114111) (hn : uSize r = n) : ∀ x ∈ uBytes r n, 0 ≤ x ∧ x < 256 := by
  unfold uBytes
  intro x hx
  split at hx
  · rename_i e
    have := uSize_1.1 (hn.trans e)
    simp only [List.mem_cons, List.not_mem_nil, or_false] at hx
    omega
  split at hx
  · rename_i e
    have := uSize_2.1 (hn.trans e)
    simp only [List.mem_cons, List.not_mem_nil, or_false] at hx
    omega
  split at hx
  · rename_i e
    have := uSize_3.1 (hn.trans e)
    simp only [List.mem_cons, List.not_mem_nil, or_false] at hx
    omega
  · simp only [List.mem_cons, List.not_mem_nil, or_false] at hx
    omega
theorem uSize_bd {r n : Int} (h : uSize r = n) (hn : n ≠ 0) : 0 ≤ r ∧ r ≤ 1114111 := by
  unfold uSize at h
  split at h
  · omega
  · omega
theorem d21 : Ty.dflt t21 = (0 : Int) := rfl
theorem encB_size (x : Int) : (encB x).size ≤ 4 := by
  have h : ∀ l : List Int, (bytesOf l).size = l.length := fun l => by
    show ((l.map fun n => UInt8.ofNat n.toNat).toArray).size = l.length
    simp
  unfold encB
  split
  · rw [h]; decide
  · rw [h]
    unfold uBytes
    repeat' split
    all_goals simp
theorem encode_take {l : List Int} {k : Nat} (h : k < l.length) : encode (l.take (k + 1)) = encode (l.take k) ++ encB (l.getD k 0) := by
  unfold encode
  rw [foldl_take_succ h, getD_of _ h]
theorem encode_len (l : List Int) : ∀ k, k ≤ l.length → (encode (l.take k)).size ≤ 4 * k
  | 0, _ => by show ByteArray.empty.size ≤ _; exact Nat.zero_le _
  | k + 1, h => by
    have ih := encode_len l k (by omega)
    rw [encode_take (by omega), ByteArray.size_append]
    have := encB_size (l.getD k 0)
    omega
theorem p26 : vc26 := by
  unfold vc26
  simp only [eq_self, true_and, and_true, decide_eq_true_eq, decide_eq_false_iff_not, beq_iff_eq, beq_eq_false_iff_ne, ne_eq]
  rintro ⟨l, ⟨⟩⟩
  simp only
  intro hl
  rw [d21]
  refine ⟨fun z => ∃ k : Nat, k ≤ l.length ∧ z.2.1 = (k : Int) ∧ z.1 = encode (l.take k), fun z => l.length - z.2.1.toNat, ⟨0, Nat.zero_le _, rfl, rfl⟩, ?_⟩
  rintro a i ⟨k, hk, hi, ha⟩
  simp only at hi ha
  subst hi ha
  refine ⟨fun h => ?_, fun h => ?_⟩
  · have hlt : k < l.length := by omega
    have hw : IntKind.i64.wrap ((k : Int) + 1) = ((k + 1 : Nat) : Int) := wrap_succ (by omega)
    have el := encode_len l k hk
    have es := encB_size (l.getD k 0)
    have et := encode_take hlt
    rw [toNat_cast, hw]
    have hdec : l.length - (((k + 1 : Nat) : Int)).toNat < l.length - (k : Int).toNat := by rw [toNat_cast, toNat_cast]; omega
    unfold encB at es et
    refine ⟨by omega, fun g => ?_, fun g => ?_⟩
    · rw [if_pos g] at es et
      exact ⟨⟨by decide, by decide, by decide⟩, by omega, ⟨k + 1, hlt, rfl, et.symm⟩, hdec⟩
    · rw [if_neg g] at es et
      have := uSize_bd (r := l.getD k 0) rfl g
      exact ⟨⟨this.1, this.2⟩, by omega, ⟨k + 1, hlt, rfl, et.symm⟩, hdec⟩
  · have : k = l.length := by omega
    subst this
    rw [List.take_length]
theorem p53 : vc53 := by
  unfold vc53
  simp only [eq_self, true_and, and_true, decide_eq_true_eq, decide_eq_false_iff_not]
  rintro ⟨s, ⟨⟩⟩
  simp only
  intro hl
  rw [maxLen_eq] at hl
  refine ⟨fun z => ∃ k : Nat, z.1 = (k : Int) ∧ k + (decAt s z.2.1).length = (decodeL s).length ∧ z.2.1 ≤ s.size, fun z => s.size - z.2.1, ⟨0, rfl, Nat.zero_add _, Nat.zero_le _⟩, ?_⟩
  rintro a p ⟨k, hi, hs, hp⟩
  simp only at hi hs hp
  subst hi
  have hd := decAt_len s s.size 0 (by omega)
  have e0 : decAt s 0 = decodeL s := rfl
  rw [e0] at hd
  refine ⟨fun h => ?_, fun h => ?_⟩
  · have wd := decode_width s p h
    rw [decAt_step h] at hs
    simp only [List.length_cons] at hs
    have hw : IntKind.i64.wrap ((k : Int) + 1) = ((k + 1 : Nat) : Int) := wrap_succ (by omega)
    rw [hw]
    simp only [reduceCtorEq, false_implies, and_true, forall_const]
    refine ⟨⟨k + 1, rfl, ?_, ?_⟩, ?_⟩ <;> first | omega | (simp only; omega)
  · rw [decAt_end (by omega)] at hs
    simp only [List.length_nil] at hs
    simp only [reduceCtorEq, false_implies, true_and, forall_const]
    omega
theorem uStep_in {s : ByteArray} {p : Nat} (h : p < s.size) : uStep s (p : Int) = (((Utf8.decode s p).1 : Int), ((Utf8.decode s p).2 : Int), ()) := by
  unfold uStep
  rw [if_neg (by omega)]
  rfl
theorem p27 : vc27 := by
  unfold vc27
  simp only [eq_self, true_and, and_true, decide_eq_true_eq, decide_eq_false_iff_not]
  rintro ⟨s, ⟨⟩⟩
  simp only
  intro hl
  rw [maxLen_eq]
  refine ⟨fun z => ∃ p : Nat, z.2.1 = (p : Int) ∧ z.1 ++ decAt s p = decodeL s ∧ z.1.length ≤ p ∧ p ≤ s.size, fun z => s.size - z.2.1.toNat, ⟨0, rfl, rfl, Nat.le_refl _, Nat.zero_le _⟩, ?_⟩
  rintro a i ⟨p, hi, hs, hlen, hp⟩
  simp only at hi hs hlen
  subst hi
  refine ⟨fun h => ?_, fun h => ?_⟩
  · have hlt : p < s.size := by omega
    have wd := decode_width s p hlt
    rw [uStep_in hlt]
    simp only
    have hw : IntKind.i64.wrap ((p : Int) + ((Utf8.decode s p).2 : Int)) = ((p + (Utf8.decode s p).2 : Nat) : Int) := by rw [wrap_eq]; omega
    have e2 : ∀ c : Int, [c].length = 1 := fun _ => rfl
    rw [hw, e2]
    refine ⟨by omega, by omega, by omega, ⟨p + (Utf8.decode s p).2, rfl, ?_, ?_, by omega⟩, ?_⟩
    · rw [decAt_step hlt] at hs
      simp only [List.append_assoc, List.cons_append, List.nil_append]
      exact hs
    · simp only [List.length_append, List.length_cons, List.length_nil]; omega
    · show s.size - (((p + (Utf8.decode s p).2 : Nat) : Int)).toNat < s.size - (p : Int).toNat
      rw [toNat_cast, toNat_cast]; omega
  · rw [decAt_end (by omega), List.append_nil] at hs
    exact hs
theorem p63 : vc63 := by
  unfold vc63
  simp only [eq_self, true_and, and_true, decide_eq_true_eq, decide_eq_false_iff_not, beq_iff_eq, beq_eq_false_iff_ne, ne_eq]
  rintro ⟨s, p, ⟨⟩⟩
  simp only
  intro hl
  rw [maxLen_eq] at hl
  refine ⟨fun h => by unfold uStep; rw [if_pos (by omega)], fun h => ⟨fun h2 => by unfold uStep; rw [if_pos (by omega)], fun h2 => ?_⟩⟩
  obtain ⟨i, rfl⟩ : ∃ i : Nat, p = i := ⟨p.toNat, by omega⟩
  have hi : i < s.size := by omega
  have hw0 : IntKind.i64.wrap ((s.size : Int) - (i : Int)) = (s.size : Int) - (i : Int) := by rw [wrap_eq]; omega
  rw [hw0, uStep_in hi]
  refine ⟨fun z => ∃ k : Nat, 1 ≤ k ∧ k ≤ 5 ∧ z.1 = (k : Int) ∧ ∀ m, 1 ≤ m → m < k → i + m ≤ s.size → ¬ fitsN s i m, fun z => 5 - z.1.toNat, ⟨1, Nat.le_refl _, by omega, rfl, fun m h1 h2 => by omega⟩, ?_⟩
  rintro a a1 a2 ⟨k, k1, k5, hk, hs⟩
  simp only at hk
  subst hk
  have bad : (5 ≤ k ∨ s.size < i + k) → Utf8.decode s i = (65533, 1) := fun g =>
    by
      refine step_0 (fun f => ?_) (fun q f => ?_) (fun q f => ?_) (fun q f => ?_)
      · exact hs 1 (by omega) (by omega) (by omega) f
      · exact hs 2 (by omega) (by omega) (by omega) f
      · exact hs 3 (by omega) (by omega) (by omega) f
      · exact hs 4 (by omega) (by omega) (by omega) f
  refine ⟨fun h4 => ⟨fun h5 => ?_, fun h5 => by rw [bad (by omega)]; rfl⟩, fun h4 => by rw [bad (by omega)]; rfl⟩
  have hw : IntKind.i64.wrap ((k : Int) + 1) = ((k + 1 : Nat) : Int) := wrap_succ (by omega)
  have hw2 : IntKind.i64.wrap ((i : Int) + (k : Int)) = ((i + k : Nat) : Int) := by rw [wrap_eq]; omega
  rw [hw, hw2, toNat_cast, toNat_cast, strBytes_extract s i k (by omega)]
  have hz : (s.extract i (i + k)).size = k := by rw [ByteArray.size_extract]; omega
  have hdec : 5 - (((k + 1 : Nat) : Int)).toNat < 5 - (k : Int).toNat := by rw [toNat_cast, toNat_cast]; omega
  have next : ¬ fitsN s i k → ∃ k' : Nat, 1 ≤ k' ∧ k' ≤ 5 ∧ ((k + 1 : Nat) : Int) = (k' : Int) ∧ ∀ m, 1 ≤ m → m < k' → i + m ≤ s.size → ¬ fitsN s i m := fun g =>
    ⟨k + 1, by omega, by omega, rfl, fun m m1 m2 m3 => by
      by_cases e : m = k
      · subst e; exact g
      · exact hs m m1 (by omega) m3⟩
  refine ⟨by omega, by omega, fun g => ?_, fun g => ⟨next (fun f => g f.1), hdec⟩⟩
  have bd := uSize_bd g (by omega)
  have eqv : (bytesOf (uBytes (uNum (bytesAt s i k)) (k : Int))).toList = (s.extract i (i + k)).toList ↔ uBytes (uNum (bytesAt s i k)) (k : Int) = bytesAt s i k := by
    rw [← strBytes_inj, strBytes_of (uBytes_bd bd.1 bd.2 g), strBytes_extract s i k (by omega)]
  rw [eqv]
  refine ⟨⟨bd.1, bd.2, g⟩, fun e => ?_, fun e => ⟨next (fun f => e f.2), hdec⟩⟩
  rw [step_n k1 (by omega) (by omega) ⟨g, e⟩]
  simp only [Prod.mk.injEq, and_true]
  omega
def pnum (s : ByteArray) (base : Int) : Nat → Int
  | 0 => 0
  | 1 => (byt s 0 : Int) - base
  | 2 => 64 * ((byt s 0 : Int) - base) + (byt s 1 : Int) - 128
  | 3 => 64 * (64 * ((byt s 0 : Int) - base) + (byt s 1 : Int) - 128) + (byt s 2 : Int) - 128
  | _ => 64 * (64 * (64 * ((byt s 0 : Int) - base) + (byt s 1 : Int) - 128) + (byt s 2 : Int) - 128) + (byt s 3 : Int) - 128
theorem number_loop {s : ByteArray} {base : Int} {want : Int} (h0 : 1 ≤ s.size) (h4 : s.size ≤ 4) (b0 : 0 ≤ base) (b1 : base ≤ 240) (hw : pnum s base s.size = want) :
    ∃ (Z : Int × Int × Unit → Prop), ∃ (μ : Int × Int × Unit → Nat), Z (IntKind.i32.wrap (IntKind.i32.wrap (byt s 0 : Int) - base), (1 : Int), ()) ∧ ∀ (a i : Int), Z (a, i, ()) →
      (i < (s.size : Int) → ((0 : Int) ≤ i ∧ i < (s.size : Int)) ∧
        Z (IntKind.i32.wrap (IntKind.i32.wrap (IntKind.i32.wrap (64 * a) + IntKind.i32.wrap (byt s i.toNat : Int)) - 128), IntKind.i64.wrap (i + 1), ()) ∧
        μ (IntKind.i32.wrap (IntKind.i32.wrap (IntKind.i32.wrap (64 * a) + IntKind.i32.wrap (byt s i.toNat : Int)) - 128), IntKind.i64.wrap (i + 1), ()) < μ (a, i, ())) ∧
      (¬ i < (s.size : Int) → a = want) := by
  have c0 := byt_lt s 0
  have c1 := byt_lt s 1
  have c2 := byt_lt s 2
  have c3 := byt_lt s 3
  refine ⟨fun z => ∃ k : Nat, 1 ≤ k ∧ k ≤ s.size ∧ z.2.1 = (k : Int) ∧ z.1 = pnum s base k, fun z => s.size - z.2.1.toNat, ⟨1, Nat.le_refl _, h0, rfl, ?_⟩, ?_⟩
  · show _ = (byt s 0 : Int) - base
    simp only [wrap32_eq]
    omega
  rintro a i ⟨k, k1, k2, hi, ha⟩
  simp only at hi ha
  subst hi ha
  refine ⟨fun h => ?_, fun h => ?_⟩
  · have hw2 : IntKind.i64.wrap ((k : Int) + 1) = ((k + 1 : Nat) : Int) := wrap_succ (by omega)
    rw [hw2, toNat_cast]
    refine ⟨by omega, ⟨k + 1, by omega, by omega, rfl, ?_⟩, ?_⟩
    · have e : k = 1 ∨ k = 2 ∨ k = 3 := by omega
      rcases e with rfl | rfl | rfl
      · simp only [pnum, wrap32_eq]; omega
      · simp only [pnum, wrap32_eq]; omega
      · simp only [pnum, wrap32_eq]; omega
    · show s.size - (((k + 1 : Nat) : Int)).toNat < s.size - (k : Int).toNat
      rw [toNat_cast, toNat_cast]; omega
  · have : k = s.size := by omega
    rw [this]; exact hw
theorem p97 : vc97 := by
  unfold vc97
  simp only [eq_self, true_and, and_true, decide_eq_true_eq, decide_eq_false_iff_not, beq_iff_eq, beq_eq_false_iff_ne, ne_eq]
  rintro ⟨s, ⟨⟩⟩
  simp only
  rintro ⟨h0, h4⟩
  have e0 : (0 : Int).toNat = 0 := rfl
  rw [e0]
  simp only [byt_data]
  rw [strBytes_all]
  have c0 := byt_lt s 0
  refine ⟨by omega, fun e => ?_, fun e1 => ⟨fun e => ?_, fun e2 => ⟨fun e => ?_, fun e3 => ?_⟩⟩⟩
  · have hs : s.size = 1 := by omega
    rw [hs]
    show _ = (byt s 0 : Int)
    rw [wrap32_eq]
    omega
  · have hs : s.size = 2 := by omega
    exact number_loop h0 h4 (by decide) (by decide) (by rw [hs]; rfl)
  · have hs : s.size = 3 := by omega
    exact number_loop h0 h4 (by decide) (by decide) (by rw [hs]; rfl)
  · have hs : s.size = 4 := by omega
    exact number_loop h0 h4 (by decide) (by decide) (by rw [hs]; rfl)
def fix (x : Int) : Int := if uSize x = 0 then 65533 else x
theorem size_cases (x : Int) : uSize x = 0 ∨ uSize x = 1 ∨ uSize x = 2 ∨ uSize x = 3 ∨ uSize x = 4 := by
  unfold uSize
  repeat' split
  all_goals omega
theorem fix_size (x : Int) : uSize (fix x) = sizeR x := by
  unfold fix sizeR
  split
  · decide
  · rfl
theorem encB_eq (x : Int) : encB x = bytesOf (uBytes (fix x) (sizeR x)) := by
  unfold encB fix sizeR
  split <;> rfl
theorem sizeR_cases (x : Int) : sizeR x = 1 ∨ sizeR x = 2 ∨ sizeR x = 3 ∨ sizeR x = 4 := by
  unfold sizeR
  have := size_cases x
  split <;> omega
theorem uNum_uBytes (y n : Int) (h : n = 1 ∨ n = 2 ∨ n = 3 ∨ n = 4) : uNum (uBytes y n) = y := by
  rcases h with rfl | rfl | rfl | rfl <;> simp [uBytes, uNum] <;> omega
theorem uBytes_len (y n : Int) (h : n = 1 ∨ n = 2 ∨ n = 3 ∨ n = 4) : ((uBytes y n).length : Int) = n := by
  rcases h with rfl | rfl | rfl | rfl <;> simp [uBytes]
theorem strBytes_append (a b : ByteArray) : strBytes (a ++ b) = strBytes a ++ strBytes b := by
  unfold strBytes
  simp
theorem bytesAt_take (s : ByteArray) (i n : Nat) (h : i + n ≤ s.size) : bytesAt s i n = ((strBytes s).drop i).take n := by
  apply List.ext_getElem?
  intro k
  by_cases hk : k < n
  · rw [bytesAt_get s n i k hk, List.getElem?_take, if_pos hk, List.getElem?_drop, strBytes_get s _ (by omega)]
  · rw [List.getElem?_eq_none (by rw [bytesAt_len]; omega), List.getElem?_eq_none (by rw [List.length_take]; omega)]
theorem encB_bytes (x : Int) : strBytes (encB x) = uBytes (fix x) (sizeR x) := by
  rw [encB_eq]
  have hn := sizeR_cases x
  have hb := uSize_bd (fix_size x) (by omega)
  exact strBytes_of (uBytes_bd hb.1 hb.2 (fix_size x))
theorem encB_len (x : Int) : ((encB x).size : Int) = sizeR x := by
  rw [← strBytes_len, encB_bytes]
  exact uBytes_len _ _ (sizeR_cases x)
theorem dec_enc (a t : ByteArray) (x : Int) : Utf8.decode (a ++ encB x ++ t) a.size = ((fix x).toNat, (encB x).size) := by
  have hn := sizeR_cases x
  have hl := encB_len x
  have hsz : (a ++ encB x ++ t).size = a.size + (encB x).size + t.size := by rw [ByteArray.size_append, ByteArray.size_append]
  have hb : bytesAt (a ++ encB x ++ t) a.size (encB x).size = uBytes (fix x) (sizeR x) := by
    rw [bytesAt_take _ _ _ (by omega), strBytes_append, strBytes_append, List.append_assoc, List.drop_left' (strBytes_len a), List.take_left' (strBytes_len _), encB_bytes]
  have := step_n (s := a ++ encB x ++ t) (i := a.size) (n := (encB x).size) (by omega) (by omega) (by omega) (by
    unfold fitsN
    rw [hb, uNum_uBytes _ _ hn, hl]
    exact ⟨fix_size x, rfl⟩)
  rw [this, hb, uNum_uBytes _ _ hn]
theorem encode_acc : ∀ (l : List Int) (s : ByteArray), l.foldl (fun s x => s ++ encB x) s = s ++ encode l
  | [], s => by simp [encode]
  | x :: l, s => by
    unfold encode
    simp only [List.foldl_cons]
    rw [encode_acc l, encode_acc l (ByteArray.empty ++ encB x), ByteArray.append_assoc, ByteArray.append_assoc]
    simp
theorem encode_cons (x : Int) (l : List Int) : encode (x :: l) = encB x ++ encode l := by
  show l.foldl (fun s x => s ++ encB x) (ByteArray.empty ++ encB x) = _
  rw [encode_acc]
  simp
theorem fix_bd (x : Int) : 0 ≤ fix x := by
  have h := uSize_bd (fix_size x) (by have := sizeR_cases x; omega)
  exact h.1
theorem dec_all : ∀ (l : List Int) (a t : ByteArray), decAt (a ++ encode l ++ t) a.size = l.map fix ++ decAt (a ++ encode l ++ t) (a.size + (encode l).size)
  | [], a, t => by
    have : (encode []).size = 0 := rfl
    rw [this, Nat.add_zero]; rfl
  | x :: l, a, t => by
    have e : a ++ encode (x :: l) ++ t = (a ++ encB x) ++ encode l ++ t := by rw [encode_cons]; simp [ByteArray.append_assoc]
    have e2 : (a ++ encB x) ++ encode l ++ t = a ++ encB x ++ (encode l ++ t) := by simp [ByteArray.append_assoc]
    have hl := encB_len x
    have hn := sizeR_cases x
    have hp : a.size < (a ++ encode (x :: l) ++ t).size := by
      rw [e, e2, ByteArray.size_append, ByteArray.size_append]; omega
    rw [decAt_step hp, e, e2, dec_enc a (encode l ++ t) x, ← e2]
    simp only [List.map_cons, List.cons_append]
    have ih := dec_all l (a ++ encB x) t
    rw [ByteArray.size_append] at ih
    rw [ih, encode_cons, ByteArray.size_append, ← Nat.add_assoc]
    congr 1
    have := fix_bd x
    omega
theorem byt_over {s : ByteArray} {k : Nat} (h : s.size ≤ k) : byt s k = 0 := by
  unfold byt
  have : s.get! k = 0 := by
    show s.data.getD k 0 = 0
    rw [Array.getD_eq_getD_getElem?, Array.getElem?_eq_none (show s.data.size ≤ k from h)]
    rfl
  rw [this]; rfl
theorem decode_congr {s t : ByteArray} {i j : Nat} (h : ∀ k, byt s (i + k) = byt t (j + k)) (hs : ∀ k, i + k < s.size ↔ j + k < t.size) : Utf8.decode s i = Utf8.decode t j := by
  rw [decode_eq, decode_eq]
  have h0 := h 0
  simp only [Nat.add_zero] at h0
  simp only [h0, h, hs]
theorem byt_append (b t : ByteArray) (k : Nat) : byt (b ++ t) (b.size + k) = byt t k := by
  by_cases hk : k < t.size
  · have h1 := strBytes_get (b ++ t) (b.size + k) (by rw [ByteArray.size_append]; omega)
    rw [strBytes_append, List.getElem?_append_right (by rw [strBytes_len]; omega), strBytes_len, Nat.add_sub_cancel_left, strBytes_get t k hk] at h1
    injection h1 with h1
    omega
  · rw [byt_over (s := b ++ t) (by rw [ByteArray.size_append]; omega), byt_over (by omega)]
theorem decAt_append (b t : ByteArray) : ∀ (f p : Nat), t.size ≤ p + f → decAt (b ++ t) (b.size + p) = decAt t p
  | 0, p, h => by rw [decAt_end (by rw [ByteArray.size_append]; omega), decAt_end (by omega)]
  | f + 1, p, h => by
    by_cases hp : p < t.size
    · have e : Utf8.decode (b ++ t) (b.size + p) = Utf8.decode t p := decode_congr (fun k => by rw [Nat.add_assoc, byt_append]) (fun k => by rw [ByteArray.size_append]; omega)
      have wd := decode_width t p hp
      rw [decAt_step (by rw [ByteArray.size_append]; omega), decAt_step hp, e, Nat.add_assoc, decAt_append b t f _ (by omega)]
    · rw [decAt_end (by rw [ByteArray.size_append]; omega), decAt_end (by omega)]
theorem dec_join (l : List Int) (t : ByteArray) : decodeL (encode l ++ t) = l.map fix ++ decodeL t := by
  have h := dec_all l ByteArray.empty t
  have e0 : ByteArray.empty ++ encode l ++ t = encode l ++ t := by simp
  have e1 : ByteArray.empty.size = 0 := rfl
  rw [e0, e1, Nat.zero_add] at h
  have h2 := decAt_append (encode l) t t.size 0 (by omega)
  rw [Nat.add_zero] at h2
  rw [h2] at h
  exact h
theorem dec_encode (l : List Int) : decodeL (encode l) = l.map fix := by
  have h := dec_join l ByteArray.empty
  have e0 : encode l ++ ByteArray.empty = encode l := by simp
  rw [e0] at h
  rw [h]
  show _ ++ [] = _
  simp
theorem decode_valid (s : ByteArray) (i : Nat) : uSize ((Utf8.decode s i).1 : Int) ≠ 0 := by
  unfold uSize
  rw [decode_eq]
  have := byt_lt s i
  repeat' split
  all_goals simp only at *
  all_goals (try (rename_i h _; rw [valid_iff] at h))
  all_goals omega
theorem fix_dec (s : ByteArray) : ∀ (f p : Nat), s.size ≤ p + f → (decAt s p).map fix = decAt s p
  | 0, p, h => by rw [decAt_end (by omega)]; rfl
  | f + 1, p, h => by
    by_cases hp : p < s.size
    · have wd := decode_width s p hp
      rw [decAt_step hp, List.map_cons, fix_dec s f _ (by omega)]
      congr 1
      unfold fix
      rw [if_neg (decode_valid s p)]
    · rw [decAt_end (by omega)]; rfl
theorem fix_decL (s : ByteArray) : (decodeL s).map fix = decodeL s := fix_dec s s.size 0 (by omega)
theorem dec_clean (s : ByteArray) : decodeL (clean s) = decodeL s := by
  unfold clean
  rw [dec_encode, fix_decL]
theorem clean_clean (s : ByteArray) : clean (clean s) = clean s := by
  show encode (decodeL (clean s)) = _
  rw [dec_clean]; rfl
theorem toList_inj {a b : ByteArray} (h : a.toList = b.toList) : a = b := by
  rw [toList_data, toList_data] at h
  cases a; cases b
  simp only [ByteArray.mk.injEq]
  exact Array.toList_inj.1 h
theorem encode_size (l : List Int) : (encode l).size ≤ 4 * l.length := by
  have := encode_len l l.length (Nat.le_refl _)
  rwa [List.take_length] at this
theorem decL_len (s : ByteArray) : (decodeL s).length ≤ s.size := by
  have := decAt_len s s.size 0 (by omega)
  exact this
theorem utf_enc (x : Int) : Utf8.encode x = encB x := by
  unfold Utf8.encode encB
  by_cases h : uSize x = 0
  · have hv : Utf8.valid x = false := by
      cases hh : Utf8.valid x with
      | false => rfl
      | true =>
        exfalso
        rw [valid_iff] at hh
        unfold uSize at h
        repeat' split at h
        all_goals omega
    rw [if_pos h, hv]
    rfl
  · have hv : Utf8.valid x = true := by
      rw [valid_iff]
      unfold uSize at h
      repeat' split at h
      all_goals omega
    rw [if_neg h, hv]
    obtain ⟨m, rfl⟩ : ∃ m : Nat, x = (m : Int) := ⟨x.toNat, by have := uSize_bd (r := x) rfl h; omega⟩
    simp only [if_true, toNat_cast]
    have q : ∀ (n : Int) (k : Nat), n = (k : Int) → UInt8.ofNat n.toNat = UInt8.ofNat k := fun n k e => by rw [e]; rfl
    rcases size_cases (m : Int) with e | e | e | e | e
    · exact absurd e h
    · have := uSize_1.1 e
      rw [if_pos (by omega), e]
      show _ = ByteArray.mk ([UInt8.ofNat (m : Int).toNat].toArray)
      rfl
    · have := uSize_2.1 e
      rw [if_neg (by omega), if_pos (by omega), e]
      show _ = ByteArray.mk ([UInt8.ofNat (192 + (m : Int) / 64).toNat, UInt8.ofNat (128 + (m : Int) % 64).toNat].toArray)
      rw [q _ (192 + m / 64) (by omega), q _ (128 + m % 64) (by omega)]
    · have := uSize_3.1 e
      rw [if_neg (by omega), if_neg (by omega), if_pos (by omega), e]
      show _ = ByteArray.mk ([UInt8.ofNat (224 + (m : Int) / 4096).toNat, UInt8.ofNat (128 + (m : Int) / 64 % 64).toNat, UInt8.ofNat (128 + (m : Int) % 64).toNat].toArray)
      rw [q _ (224 + m / 4096) (by omega), q _ (128 + m / 64 % 64) (by omega), q _ (128 + m % 64) (by omega)]
    · have := uSize_4.1 e
      rw [if_neg (by omega), if_neg (by omega), if_neg (by omega), e]
      show _ = ByteArray.mk ([UInt8.ofNat (240 + (m : Int) / 262144).toNat, UInt8.ofNat (128 + (m : Int) / 4096 % 64).toNat, UInt8.ofNat (128 + (m : Int) / 64 % 64).toNat, UInt8.ofNat (128 + (m : Int) % 64).toNat].toArray)
      rw [q _ (240 + m / 262144) (by omega), q _ (128 + m / 4096 % 64) (by omega), q _ (128 + m / 64 % 64) (by omega), q _ (128 + m % 64) (by omega)]
theorem bytesOf_str (s : ByteArray) : bytesOf (strBytes s) = s := by
  apply toList_inj
  rw [← strBytes_inj, strBytes_of]
  intro x hx
  obtain ⟨k, hk, rfl⟩ := List.getElem_of_mem hx
  have hks : k < s.size := by rw [strBytes_len] at hk; exact hk
  have := strBytes_get s k hks
  rw [List.getElem?_eq_getElem hk] at this
  injection this with this
  rw [this]
  have := byt_lt s k
  omega
theorem right_0 {x : Int} (h : right x = false) : uSize x = 0 := by
  rw [right_no] at h
  unfold uSize
  rw [if_pos (by omega)]
theorem encB_bad {x : Int} (h : right x = false) : encB 65533 = encB x := by
  unfold encB
  rw [if_pos (right_0 h)]
  rfl
theorem p55 : vc55 := by
  unfold vc55
  simp only [eq_self, true_and, and_true, decide_eq_true_eq, decide_eq_false_iff_not, Bool.not_eq_true', Bool.not_eq_false']
  rintro ⟨l, ⟨⟩⟩
  simp only
  intro hl
  rw [d21, maxLen_eq]
  refine ⟨fun z => ∃ k : Nat, k ≤ l.length ∧ z.2.1 = (k : Int) ∧ z.1 = strBytes (encode (l.take k)), fun z => l.length - z.2.1.toNat, ⟨0, Nat.zero_le _, rfl, rfl⟩, ?_⟩
  rintro a i ⟨k, hk, hi, ha⟩
  simp only at hi ha
  subst hi ha
  refine ⟨fun h => ?_, fun h => ?_⟩
  · have hlt : k < l.length := by omega
    have hw : IntKind.i64.wrap ((k : Int) + 1) = ((k + 1 : Nat) : Int) := wrap_succ (by omega)
    have el := encode_len l k hk
    have et := encode_take hlt
    rw [toNat_cast, hw, utf_enc, utf_enc]
    generalize l.getD k 0 = x at *
    have es := encB_size x
    have e6 := encB_size 65533
    have hdec : l.length - (((k + 1 : Nat) : Int)).toNat < l.length - (k : Int).toNat := by rw [toNat_cast, toNat_cast]; omega
    simp only [strBytes_len]
    refine ⟨by omega, fun g => ⟨by omega, by omega, ⟨k + 1, hlt, rfl, ?_⟩, hdec⟩, fun g => ⟨by omega, by omega, ⟨k + 1, hlt, rfl, ?_⟩, hdec⟩⟩
    · rw [encB_bad g, ← strBytes_append, et]
    · rw [← strBytes_append, et]
  · have : k = l.length := by omega
    subst this
    rw [List.take_length, bytesOf_str]
theorem p56 : vc56 := by
  unfold vc56
  simp only [eq_self, true_and, and_true, decide_eq_true_eq, decide_eq_false_iff_not]
  rintro ⟨s, ⟨⟩⟩
  simp only
  intro hl
  rw [maxLen_eq]
  refine ⟨fun z => z.1 ++ decAt s z.2.1 = decodeL s ∧ z.1.length ≤ z.2.1 ∧ z.2.1 ≤ s.size, fun z => s.size - z.2.1, ⟨rfl, Nat.le_refl _, Nat.zero_le _⟩, ?_⟩
  rintro a p ⟨hs, hlen, hp⟩
  simp only at hs hlen hp
  have e2 : ∀ c : Int, [c].length = 1 := fun _ => rfl
  refine ⟨fun h => ⟨fun _ => ?_, (fun h => by cases h)⟩, fun h => ⟨(fun h => by cases h), fun _ => ?_⟩⟩
  · have wd := decode_width s p h
    rw [e2]
    refine ⟨by omega, by omega, ⟨?_, ?_, by simp only; omega⟩, by simp only; omega⟩
    · rw [decAt_step h] at hs
      simp only [List.append_assoc, List.cons_append, List.nil_append]
      exact hs
    · simp only [List.length_append, List.length_cons, List.length_nil]; omega
  · rw [decAt_end (by omega), List.append_nil] at hs
    exact hs
theorem p22 : vc22 := by
  rintro ⟨s, ⟨⟩⟩
  simp only
  intro hl
  have := decL_len s
  exact ⟨by omega, by omega, rfl⟩
theorem byt_extract (s : ByteArray) (i k : Nat) (hi : i ≤ s.size) : byt (s.extract i s.size) k = byt s (i + k) := by
  by_cases h : i + k < s.size
  · exact extract_byt s i s.size k h (Nat.le_refl _)
  · rw [byt_over (s := s) (by omega), byt_over (by rw [ByteArray.size_extract]; omega)]
theorem sum_size {l : List Int} {k : Nat} (h : k < l.length) : ((encode (l.take (k + 1))).size : Int) = (encode (l.take k)).size + sizeR (l.getD k 0) := by
  rw [encode_take h, ByteArray.size_append, ← encB_len]
  omega
end Go.Fr.Z14
namespace Go.Fr.Z14
open Go Go.Fr Go.Proofs
set_option maxRecDepth 100000
def hs7 : List (Nat × Nat × Hint) := [(0, 8, ⟨[.slot 30 t3, .cell 27 0 (mapT t3 t67), .rowC 26 1 900000001 t48 48], [0, 6, 7, 28, 29], [27, 26], []⟩)]
def nm7 : List Nat := [2000000025, 3000000023, 3000000077, 3000000103, 4000000018]
noncomputable def E7 : Env := envR tab [(21, cWrong), (22, cClean), (24, cOrder)] [] gl hs7 nm7 [(23, rSort)]
def vc7 : Prop :=
 ∀ (x : Int × List Inl × Unit),
 let y := x.snd.fst;
 let y_1 := x.fst;
 let y_2 := (↑(List.length y) : Int);
 let y_3 := newI y_1 y;
 List.length y ≤ maxLen ∧ shortL y →
 (decide (y_1 < (0 : Int)) = true → (none, (1 : Int), ()) = y_3) ∧
 (decide (y_1 < (0 : Int)) = false →
 (decide (y_1 > (1099511627776 : Int)) = true → (none, (1 : Int), ()) = y_3) ∧
 (decide (y_1 > (1099511627776 : Int)) = false →
 (decide (y_2 > (60 : Int)) = true → (none, (5 : Int), ()) = y_3) ∧
 (decide (y_2 > (60 : Int)) = false →
 (((0 : Int) = (0 : Int) ∧ y_1 = y_1 ∧ True ∧ True ∧ y = y ∧ y_2 = y_2) ∧
 ((([] : List (Int × Unit × Unit)) = [] ∧ True) ∧ y_1 = y_1 ∧ True) ∧ True ∧ True) ∧
 ∃ (Z :
 Int × List (Int × Unit × Unit) × List Inl × Unit → Prop),
 ∃ (μ :
 Int × List (Int × Unit × Unit) × List Inl × Unit → Nat),
 Z ((0 : Int), [], [], ()) ∧
 ∀ (a : Int),
 let y_4 :=  [((List.getD y (Int.toNat a) (Ty.dflt t48)).fst,  (List.getD y (Int.toNat a) (Ty.dflt t48)).snd.fst,  (List.getD y (Int.toNat a) (Ty.dflt t48)).snd.snd.fst,  (List.getD y (Int.toNat a) (Ty.dflt t48)).snd.snd.snd.fst,  clean (List.getD y (Int.toNat a) (Ty.dflt t48)).snd.snd.snd.snd.fst, ())];
 let y_5 := [((List.getD y (Int.toNat a) (Ty.dflt t48)).fst, (), ())];
 let y_6 := IntKind.wrap IntKind.i64 (a + (1 : Int));
 let y_7 := List.getD y (Int.toNat a) (Ty.dflt t48);
 let y_8 := y_7.fst;
 ∀ (a_1 : List (Int × Unit × Unit)),
 let y_9 := a_1 ++ y_5;
 ∀ (a_2 : List Inl),
 let y_10 := (y_6, y_9, a_2 ++ y_4, ());
 let y_11 := (a, a_1, a_2, ());
 let y_12 := a_2 ++ y_4;
 let y_13 := List.length a_2 + List.length y_4;
 let y_14 := y_13 * (48 : Nat);
 Z y_11 →
 (decide (a < y_2) = true →
 ((0 : Int) ≤ a ∧ a < y_2) ∧
 ByteArray.size (txt y_7) ≤ maxLen ∧
 ((wrongI y_1 y_7 != (0 : Int)) = true → (none, wrongI y_1 y_7, ()) = y_3) ∧
 ((wrongI y_1 y_7 != (0 : Int)) = false →
 (Option.isSome (mget t3 t67 y_8 a_1) = true → (none, (8 : Int), ()) = y_3) ∧
 (Option.isSome (mget t3 t67 y_8 a_1) = false →
 mget t3 t67 y_8 a_1 = none ∧
 ByteArray.size y_7.snd.snd.snd.snd.fst ≤ (100000000 : Nat) ∧
 (y_14 ≤ (140737488355328 : Nat) ∧
 y_13 ≤ maxLen ∧
 ((y_6 = y_6 ∧ y_1 = y_1 ∧ True ∧ True ∧ y = y ∧ y_2 = y_2) ∧
 ((y_9 = y_9 ∧ True) ∧ y_1 = y_1 ∧ True) ∧
 y_12 = y_12 ∧ True) ∧
 Z y_10 ∧ μ y_10 < μ y_11) ∧
 (y_14 ≤ (140737488355328 : Nat) ∧
 y_13 ≤ maxLen ∧
 ((y_6 = y_6 ∧ y_1 = y_1 ∧ True ∧ True ∧ y = y ∧ y_2 = y_2) ∧
 ((y_9 = y_9 ∧ True) ∧ y_1 = y_1 ∧ True) ∧
 y_12 = y_12 ∧ True) ∧
 Z y_10 ∧ μ y_10 < μ y_11) ∧
 y_14 ≤ (140737488355328 : Nat) ∧
 y_13 ≤ maxLen ∧
 ((y_6 = y_6 ∧ y_1 = y_1 ∧ True ∧ True ∧ y = y ∧ y_2 = y_2) ∧
 ((y_9 = y_9 ∧ True) ∧ y_1 = y_1 ∧ True) ∧
 y_12 = y_12 ∧ True) ∧
 Z y_10 ∧ μ y_10 < μ y_11))) ∧
 (decide (a < y_2) = false →
 List.length a_2 ≤ (100000 : Nat) ∧
 ∀ (ys : List Inl),
 List.Perm ys a_2 ∧ List.Pairwise (fun (a b : Inl) ↦ ¬cmpL b a < (0 : Int)) ys →
 (some (y_1, ys, ()), (0 : Int), ()) = y_3))))
theorem vcEq7 : fnVC E7 Tryz.f7 (bodyOf Tryz.f7) cNew = vc7 := by kernel_rfl
def hsO15 : List (Nat × Nat × Hint) := []
def nmO15 : List Nat := [3000000023, 3000000077, 3000000103]
noncomputable def EO15 : Env := envR tab [(46, cCloneO)] [] gl hsO15 nmO15 []
def vcO15 : Prop :=
 ∀ (x : Option (Int × List Inl × Unit) × Unit),
 List.length (allI x.fst) ≤ (10000 : Nat) →
 (Option.isNone x.fst = true → [] = allI x.fst) ∧
 (Option.isNone x.fst = false →
 Option.isSome x.fst = true ∧
 List.length (List.getD (optL x.fst) (0 : Nat) (Ty.dflt t64)).snd.fst ≤ (10000 : Nat) ∧
 (List.getD (optL x.fst) (0 : Nat) (Ty.dflt t64)).snd.fst = allI x.fst)
theorem vcEqO15 : fnVCO EO15 Tryz.f15 (bodyOf Tryz.f15) cAllO = vcO15 := by kernel_rfl
def hs16 : List (Nat × Nat × Hint) := [(0, 8, ⟨[.slot 42 t3, .rowN 39 t48 48], [1, 6, 7, 41], [], []⟩)]
def nm16 : List Nat := [3000000023, 3000000077, 3000000103]
noncomputable def E16 : Env := env tab [(31, cLen), (47, cNormal), (48, cDelta), (15, cAllO), (49, cMap), (7, cNew)] [] gl hs16 nm16
def vc16 : Prop :=
 ∀
 (x :
 Option (Int × List Inl × Unit) ×
 List ((Int × Int × Unit) × (Int × Int × Unit) × Unit) × Unit),
 let y := x.snd.fst;
 let y_1 := x.fst;
 let y_2 := (↑(List.length (allI y_1)) : Int);
 let y_3 := ((0 : Int), allI y_1, ());
 let y_4 := IntKind.wrap IntKind.i64 (lenI y_1 + delta y);
 let y_5 :=  (List.getD y (Int.toNat (IntKind.wrap IntKind.i64 ((↑(List.length y) : Int) - (1 : Int))))  (Ty.dflt t51)).fst.snd.fst;
 let y_6 := List.length y;
 let y_7 := shiftI y_1 y;
 let y_8 := decide ((↑y_6 : Int) > (0 : Int));
 let y_9 := decide (y_5 > lenI y_1);
 let y_10 := decide (y_4 > (1099511627776 : Int));
 okI y_1 ∧ y_6 ≤ (1000 : Nat) →
 True ∧
 y_6 ≤ maxLen ∧
 ((!normal y) = true → (none, (4 : Int), ()) = y_7) ∧
 ((!normal y) = false →
 (y_8 = true →
 ((0 : Int) ≤ IntKind.wrap IntKind.i64 ((↑y_6 : Int) - (1 : Int)) ∧
 IntKind.wrap IntKind.i64 ((↑y_6 : Int) - (1 : Int)) < (↑y_6 : Int)) ∧
 (y_9 = true → (none, (1 : Int), ()) = y_7) ∧
 (y_9 = false →
 y_6 ≤ maxLen ∧
 (y_10 = true → (none, (1 : Int), ()) = y_7) ∧
 (y_10 = false →
 List.length (allI y_1) ≤ (10000 : Nat) ∧
 (((0 : Int) = (0 : Int) ∧ y = y ∧ lenI y_1 = lenI y_1 ∧ True ∧ y_2 = y_2) ∧
 allI y_1 = allI y_1 ∧ True) ∧
 ∃ (Z : Int × List Inl × Unit → Prop),
 ∃ (μ : Int × List Inl × Unit → Nat),
 Z y_3 ∧
 ∀ (a : Int),
 let y_11 := IntKind.wrap IntKind.i64 (a + (1 : Int));
 ∀ (a_1 : List Inl),
 let y_12 :=  List.set a_1 (Int.toNat a)  ((List.getD a_1 (Int.toNat a) (Ty.dflt t48)).fst,  (mapP y (List.getD a_1 (Int.toNat a) (Ty.dflt t48)).snd.fst  (List.getD a_1 (Int.toNat a) (Ty.dflt t48)).snd.snd.fst).fst,  (List.getD a_1 (Int.toNat a) (Ty.dflt t48)).snd.snd);
 let y_13 := (a, a_1, ());
 let y_14 := (y_11, y_12, ());
 Z y_13 →
 (decide (a < y_2) = true →
 ((0 : Int) ≤ a ∧ a < (↑(List.length a_1) : Int)) ∧
 ((0 : Int) ≤ a ∧ a < (↑(List.length a_1) : Int)) ∧
 y_6 ≤ maxLen ∧
 ((0 : Int) ≤ a ∧ a < (↑(List.length a_1) : Int)) ∧
 ((y_11 = y_11 ∧
 y = y ∧ lenI y_1 = lenI y_1 ∧ True ∧ y_2 = y_2) ∧
 y_12 = y_12 ∧ True) ∧
 Z y_14 ∧ μ y_14 < μ y_13) ∧
 (decide (a < y_2) = false →
 y_6 ≤ maxLen ∧
 (List.length a_1 ≤ maxLen ∧ shortL a_1) ∧ newI y_4 a_1 = y_7)))) ∧
 (y_8 = false →
 y_6 ≤ maxLen ∧
 (y_10 = true → (none, (1 : Int), ()) = y_7) ∧
 (y_10 = false →
 List.length (allI y_1) ≤ (10000 : Nat) ∧
 (((0 : Int) = (0 : Int) ∧ y = y ∧ lenI y_1 = lenI y_1 ∧ True ∧ y_2 = y_2) ∧
 allI y_1 = allI y_1 ∧ True) ∧
 ∃ (Z : Int × List Inl × Unit → Prop),
 ∃ (μ : Int × List Inl × Unit → Nat),
 Z y_3 ∧
 ∀ (a : Int),
 let y_11 := IntKind.wrap IntKind.i64 (a + (1 : Int));
 ∀ (a_1 : List Inl),
 let y_12 :=  List.set a_1 (Int.toNat a)  ((List.getD a_1 (Int.toNat a) (Ty.dflt t48)).fst,  (mapP y (List.getD a_1 (Int.toNat a) (Ty.dflt t48)).snd.fst  (List.getD a_1 (Int.toNat a) (Ty.dflt t48)).snd.snd.fst).fst,  (List.getD a_1 (Int.toNat a) (Ty.dflt t48)).snd.snd);
 let y_13 := (a, a_1, ());
 let y_14 := (y_11, y_12, ());
 Z y_13 →
 (decide (a < y_2) = true →
 ((0 : Int) ≤ a ∧ a < (↑(List.length a_1) : Int)) ∧
 ((0 : Int) ≤ a ∧ a < (↑(List.length a_1) : Int)) ∧
 y_6 ≤ maxLen ∧
 ((0 : Int) ≤ a ∧ a < (↑(List.length a_1) : Int)) ∧
 ((y_11 = y_11 ∧ y = y ∧ lenI y_1 = lenI y_1 ∧ True ∧ y_2 = y_2) ∧
 y_12 = y_12 ∧ True) ∧
 Z y_14 ∧ μ y_14 < μ y_13) ∧
 (decide (a < y_2) = false →
 y_6 ≤ maxLen ∧
 (List.length a_1 ≤ maxLen ∧ shortL a_1) ∧ newI y_4 a_1 = y_7))))
theorem vcEq16 : fnVC E16 Tryz.f16 (bodyOf Tryz.f16) cShift = vc16 := by kernel_rfl
def hs39 : List (Nat × Nat × Hint) := [(780011, 5, ⟨[.rowN 8 t48 48, .slot 780016 t3, .slot 780017 t3], [780011, 780012, 6], [4, 5], []⟩),
  (1820053, 2, ⟨[.slot 1820061 t3], [1820053, 1820054, 1820060, 780011, 780012, 780016, 6], [780018, 4, 5], [8]⟩)]
def nm39 : List Nat := [2000780049, 2000780052, 3000000023, 3000000077, 3000000103]
noncomputable def E39 : Env := env tab [(15, cAllO)] [(78, Tryz.f78), (77, Tryz.f77), (103, Tryz.f103)] gl hs39 nm39
def vc39 : Prop :=
 ∀ (x : Option (Int × List Inl × Unit) × Int × Int × Unit),
 let y := x.snd.snd.fst;
 let y_1 := x.snd.fst;
 let y_2 := allI x.fst;
 let y_3 := (↑(List.length y_2) : Int);
 let y_4 := List.filter (inI y_1 y) y_2;
 List.length y_2 ≤ (10000 : Nat) →
 List.length y_2 ≤ (10000 : Nat) ∧
 (((0 : Int) = (0 : Int) ∧
 True ∧
 (True ∧ True) ∧
 y_3 = y_3 ∧
 True ∧
 (True ∧ True) ∧
 True ∧ Value.slice none (0 : Nat) (0 : Nat) = Value.slice none (0 : Nat) (0 : Nat)) ∧
 (y_1 = y_1 ∧ y = y) ∧ y_2 = y_2 ∧ True) ∧
 ∃ (Z : Int × Unit → Prop),
 ∃ (μ : Int × Unit → Nat),
 Z ((0 : Int), ()) ∧
 ∀ (a : Int),
 let y_5 := (List.getD y_2 (Int.toNat a) (Ty.dflt t48)).snd.fst;
 let y_6 := IntKind.wrap IntKind.i64 (a + (1 : Int));
 let y_7 := a == (-1 : Int);
 let y_8 := (y_2, a, y_6, ());
 Z (a, ()) →
 (decide (a < y_3) = true →
 ((0 : Int) ≤ a ∧ a < y_3) ∧
 (decide (y_5 < y_1) = true →
 (y_7 = true → y_2 = y_4) ∧
 (y_7 = false →
 ((y_6 = y_6 ∧
 a = a ∧
 True ∧
 (True ∧ True) ∧
 Value.slice none (0 : Nat) (0 : Nat) =
 Value.slice none (0 : Nat) (0 : Nat)) ∧
 (y_1 = y_1 ∧ y = y) ∧ y_2 = y_2 ∧ True) ∧
 ∃ (Z : List Inl × Int × Int × Unit → Prop),
 ∃ (μ : List Inl × Int × Int × Unit → Nat),
 Z y_8 ∧
 ∀ (a : List Inl),
 let y_9 := (↑(List.length a) : Int);
 ∀ (a_5 : Int),
 let y_10 :=  List.take (Int.toNat a_5) a ++  List.replicate (List.length a - Int.toNat a_5)  ((0 : Int), (0 : Int), (0 : Int), (0 : Int), ByteArray.empty, ());
 let y_11 := IntKind.wrap IntKind.i64 (a_5 + (1 : Int));
 ∀ (a_6 : Int),
 let y_12 :=  (List.set a (Int.toNat a_5) (List.getD a (Int.toNat a_6) (Ty.dflt t48)),  y_11, IntKind.wrap IntKind.i64 (a_6 + (1 : Int)), ());
 let y_13 := (a, a_5, a_6, ());
 let y_14 := (a, a_5, IntKind.wrap IntKind.i64 (a_6 + (1 : Int)), ());
 let y_15 := (List.getD a (Int.toNat a_6) (Ty.dflt t48)).snd.fst;
 let y_16 := IntKind.wrap IntKind.i64 (a_6 + (1 : Int));
 let y_17 :=  List.set a (Int.toNat a_5) (List.getD a (Int.toNat a_6) (Ty.dflt t48));
 Z y_13 →
 (decide (a_6 < y_9) = true →
 ((0 : Int) ≤ a_6 ∧ a_6 < y_9) ∧
 (decide (y_15 < y_1) = true →
 ((!true) = true →
 ((0 : Int) ≤ a_5 ∧ a_5 < y_9) ∧
 ((y_16 = y_16 ∧
 y_11 = y_11 ∧
 True ∧
 (True ∧ True) ∧
 Value.slice none (0 : Nat) (0 : Nat) =
 Value.slice none (0 : Nat) (0 : Nat)) ∧
 (y_1 = y_1 ∧ y = y) ∧ y_17 = y_17 ∧ True) ∧
 Z y_12 ∧ μ y_12 < μ y_13) ∧
 ((!true) = false →
 ((y_16 = y_16 ∧
 a_5 = a_5 ∧
 True ∧
 (True ∧ True) ∧
 Value.slice none (0 : Nat) (0 : Nat) =
 Value.slice none (0 : Nat) (0 : Nat)) ∧
 (y_1 = y_1 ∧ y = y) ∧ a = a ∧ True) ∧
 Z y_14 ∧ μ y_14 < μ y_13)) ∧
 (decide (y_15 < y_1) = false →
 ((!decide (y_15 > y)) = true →
 ((0 : Int) ≤ a_5 ∧ a_5 < y_9) ∧
 ((y_16 = y_16 ∧
 y_11 = y_11 ∧
 True ∧
 (True ∧ True) ∧
 Value.slice none (0 : Nat) (0 : Nat) =
 Value.slice none (0 : Nat) (0 : Nat)) ∧
 (y_1 = y_1 ∧ y = y) ∧ y_17 = y_17 ∧ True) ∧
 Z y_12 ∧ μ y_12 < μ y_13) ∧
 ((!decide (y_15 > y)) = false →
 ((y_16 = y_16 ∧
 a_5 = a_5 ∧
 True ∧
 (True ∧ True) ∧
 Value.slice none (0 : Nat) (0 : Nat) =
 Value.slice none (0 : Nat) (0 : Nat)) ∧
 (y_1 = y_1 ∧ y = y) ∧ a = a ∧ True) ∧
 Z y_14 ∧ μ y_14 < μ y_13))) ∧
 (decide (a_6 < y_9) = false →
 ((0 : Int) ≤ a_5 ∧ a_5 < y_9) ∧
 ((0 : Int) ≤ a_5 ∧ a_5 ≤ (↑(List.length y_10) : Int)) ∧
 List.take (Int.toNat a_5) y_10 = y_4))) ∧
 (decide (y_5 < y_1) = false →
 (decide (y_5 > y) = true →
 (y_7 = true → y_2 = y_4) ∧
 (y_7 = false →
 ((y_6 = y_6 ∧
 a = a ∧
 True ∧
 (True ∧ True) ∧
 Value.slice none (0 : Nat) (0 : Nat) =
 Value.slice none (0 : Nat) (0 : Nat)) ∧
 (y_1 = y_1 ∧ y = y) ∧ y_2 = y_2 ∧ True) ∧
 ∃ (Z : List Inl × Int × Int × Unit → Prop),
 ∃ (μ :
 List Inl × Int × Int × Unit → Nat),
 Z y_8 ∧
 ∀ (a : List Inl),
 let y_9 := (↑(List.length a) : Int);
 ∀ (a_6 : Int),
 let y_10 :=  List.take (Int.toNat a_6) a ++  List.replicate (List.length a - Int.toNat a_6)  ((0 : Int), (0 : Int), (0 : Int), (0 : Int), ByteArray.empty, ());
 let y_11 := IntKind.wrap IntKind.i64 (a_6 + (1 : Int));
 ∀ (a_7 : Int),
 let y_12 :=  (List.set a (Int.toNat a_6)  (List.getD a (Int.toNat a_7) (Ty.dflt t48)),  y_11, IntKind.wrap IntKind.i64 (a_7 + (1 : Int)), ());
 let y_13 := (a, a_6, a_7, ());
 let y_14 := (a, a_6, IntKind.wrap IntKind.i64 (a_7 + (1 : Int)), ());
 let y_15 := (List.getD a (Int.toNat a_7) (Ty.dflt t48)).snd.fst;
 let y_16 := IntKind.wrap IntKind.i64 (a_7 + (1 : Int));
 let y_17 :=  List.set a (Int.toNat a_6)  (List.getD a (Int.toNat a_7) (Ty.dflt t48));
 Z y_13 →
 (decide (a_7 < y_9) = true →
 ((0 : Int) ≤ a_7 ∧ a_7 < y_9) ∧
 (decide (y_15 < y_1) = true →
 ((!true) = true →
 ((0 : Int) ≤ a_6 ∧ a_6 < y_9) ∧
 ((y_16 = y_16 ∧
 y_11 = y_11 ∧
 True ∧
 (True ∧ True) ∧
 Value.slice none (0 : Nat) (0 : Nat) =
 Value.slice none (0 : Nat)
 (0 : Nat)) ∧
 (y_1 = y_1 ∧ y = y) ∧ y_17 = y_17 ∧ True) ∧
 Z y_12 ∧ μ y_12 < μ y_13) ∧
 ((!true) = false →
 ((y_16 = y_16 ∧
 a_6 = a_6 ∧
 True ∧
 (True ∧ True) ∧
 Value.slice none (0 : Nat) (0 : Nat) =
 Value.slice none (0 : Nat) (0 : Nat)) ∧
 (y_1 = y_1 ∧ y = y) ∧ a = a ∧ True) ∧
 Z y_14 ∧ μ y_14 < μ y_13)) ∧
 (decide (y_15 < y_1) = false →
 ((!decide (y_15 > y)) = true →
 ((0 : Int) ≤ a_6 ∧ a_6 < y_9) ∧
 ((y_16 = y_16 ∧
 y_11 = y_11 ∧
 True ∧
 (True ∧ True) ∧
 Value.slice none (0 : Nat) (0 : Nat) =
 Value.slice none (0 : Nat)
 (0 : Nat)) ∧
 (y_1 = y_1 ∧ y = y) ∧ y_17 = y_17 ∧ True) ∧
 Z y_12 ∧ μ y_12 < μ y_13) ∧
 ((!decide (y_15 > y)) = false →
 ((y_16 = y_16 ∧
 a_6 = a_6 ∧
 True ∧
 (True ∧ True) ∧
 Value.slice none (0 : Nat) (0 : Nat) =
 Value.slice none (0 : Nat) (0 : Nat)) ∧
 (y_1 = y_1 ∧ y = y) ∧ a = a ∧ True) ∧
 Z y_14 ∧ μ y_14 < μ y_13))) ∧
 (decide (a_7 < y_9) = false →
 ((0 : Int) ≤ a_6 ∧ a_6 < y_9) ∧
 ((0 : Int) ≤ a_6 ∧ a_6 ≤ (↑(List.length y_10) : Int)) ∧
 List.take (Int.toNat a_6) y_10 = y_4))) ∧
 (decide (y_5 > y) = false →
 ((y_6 = y_6 ∧
 True ∧
 (True ∧ True) ∧
 y_3 = y_3 ∧
 True ∧
 (True ∧ True) ∧
 True ∧
 Value.slice none (0 : Nat) (0 : Nat) =
 Value.slice none (0 : Nat) (0 : Nat)) ∧
 (y_1 = y_1 ∧ y = y) ∧ y_2 = y_2 ∧ True) ∧
 Z (y_6, ()) ∧ μ (y_6, ()) < μ (a, ())))) ∧
 (decide (a < y_3) = false →
 (((-1 : Int) == (-1 : Int)) = true → y_2 = y_4) ∧
 (((-1 : Int) == (-1 : Int)) = false →
 ((IntKind.wrap IntKind.i64 ((-1 : Int) + (1 : Int)) =
 IntKind.wrap IntKind.i64 ((-1 : Int) + (1 : Int)) ∧
 (-1 : Int) = (-1 : Int) ∧
 True ∧
 (True ∧ True) ∧
 Value.slice none (0 : Nat) (0 : Nat) = Value.slice none (0 : Nat) (0 : Nat)) ∧
 (y_1 = y_1 ∧ y = y) ∧ y_2 = y_2 ∧ True) ∧
 ∃ (Z : List Inl × Int × Int × Unit → Prop),
 ∃ (μ : List Inl × Int × Int × Unit → Nat),
 Z (y_2, (-1 : Int), IntKind.wrap IntKind.i64 ((-1 : Int) + (1 : Int)), ()) ∧
 ∀ (a : List Inl),
 let y_9 := (↑(List.length a) : Int);
 ∀ (a_2 : Int),
 let y_10 :=  List.take (Int.toNat a_2) a ++  List.replicate (List.length a - Int.toNat a_2)  ((0 : Int), (0 : Int), (0 : Int), (0 : Int), ByteArray.empty, ());
 let y_11 := IntKind.wrap IntKind.i64 (a_2 + (1 : Int));
 ∀ (a_3 : Int),
 let y_12 :=  (List.set a (Int.toNat a_2) (List.getD a (Int.toNat a_3) (Ty.dflt t48)), y_11,  IntKind.wrap IntKind.i64 (a_3 + (1 : Int)), ());
 let y_13 := (a, a_2, a_3, ());
 let y_14 := (a, a_2, IntKind.wrap IntKind.i64 (a_3 + (1 : Int)), ());
 let y_15 := (List.getD a (Int.toNat a_3) (Ty.dflt t48)).snd.fst;
 let y_16 := IntKind.wrap IntKind.i64 (a_3 + (1 : Int));
 let y_17 :=  List.set a (Int.toNat a_2) (List.getD a (Int.toNat a_3) (Ty.dflt t48));
 Z y_13 →
 (decide (a_3 < y_9) = true →
 ((0 : Int) ≤ a_3 ∧ a_3 < y_9) ∧
 (decide (y_15 < y_1) = true →
 ((!true) = true →
 ((0 : Int) ≤ a_2 ∧ a_2 < y_9) ∧
 ((y_16 = y_16 ∧
 y_11 = y_11 ∧
 True ∧
 (True ∧ True) ∧
 Value.slice none (0 : Nat) (0 : Nat) =
 Value.slice none (0 : Nat) (0 : Nat)) ∧
 (y_1 = y_1 ∧ y = y) ∧ y_17 = y_17 ∧ True) ∧
 Z y_12 ∧ μ y_12 < μ y_13) ∧
 ((!true) = false →
 ((y_16 = y_16 ∧
 a_2 = a_2 ∧
 True ∧
 (True ∧ True) ∧
 Value.slice none (0 : Nat) (0 : Nat) =
 Value.slice none (0 : Nat) (0 : Nat)) ∧
 (y_1 = y_1 ∧ y = y) ∧ a = a ∧ True) ∧
 Z y_14 ∧ μ y_14 < μ y_13)) ∧
 (decide (y_15 < y_1) = false →
 ((!decide (y_15 > y)) = true →
 ((0 : Int) ≤ a_2 ∧ a_2 < y_9) ∧
 ((y_16 = y_16 ∧
 y_11 = y_11 ∧
 True ∧
 (True ∧ True) ∧
 Value.slice none (0 : Nat) (0 : Nat) =
 Value.slice none (0 : Nat) (0 : Nat)) ∧
 (y_1 = y_1 ∧ y = y) ∧ y_17 = y_17 ∧ True) ∧
 Z y_12 ∧ μ y_12 < μ y_13) ∧
 ((!decide (y_15 > y)) = false →
 ((y_16 = y_16 ∧
 a_2 = a_2 ∧
 True ∧
 (True ∧ True) ∧
 Value.slice none (0 : Nat) (0 : Nat) =
 Value.slice none (0 : Nat) (0 : Nat)) ∧
 (y_1 = y_1 ∧ y = y) ∧ a = a ∧ True) ∧
 Z y_14 ∧ μ y_14 < μ y_13))) ∧
 (decide (a_3 < y_9) = false →
 ((0 : Int) ≤ a_2 ∧ a_2 < y_9) ∧
 ((0 : Int) ≤ a_2 ∧ a_2 ≤ (↑(List.length y_10) : Int)) ∧
 List.take (Int.toNat a_2) y_10 = y_4)))
theorem vcEq39 : fnVC E39 Tryz.f39 (bodyOf Tryz.f39) cBetween = vc39 := by kernel_rfl
def hsO46 : List (Nat × Nat × Hint) := []
def nmO46 : List Nat := [1000000005, 3000000023, 3000000077, 3000000103]
noncomputable def EO46 : Env := envR tab [] [] gl hsO46 nmO46 []
def vcO46 : Prop :=
 ∀ (x : List Inl × Unit),
 List.length x.fst ≤ (10000 : Nat) →
 ∀ (c : Bool),
 (c = true → List.length x.fst = (0 : Nat)) →
 (c = true → [] = x.fst) ∧
 (c = false →
 ((0 : Nat) + List.length x.fst) * (48 : Nat) ≤ (140737488355328 : Nat) ∧
 (0 : Nat) + List.length x.fst ≤ maxLen ∧ [] ++ x.fst = x.fst)
theorem vcEqO46 : fnVCO EO46 Tryz.f46 (bodyOf Tryz.f46) cCloneO = vcO46 := by kernel_rfl
end Go.Fr.Z14
namespace Go.Fr
open Go Go.RowKit
section
variable {B : Nat} {w w' : World} {h : PHeap}
theorem row_holds {e : TypeId} {size g n cap : Nat} {cs : List Value} (hown : w.ownsRow B e size (.slice (some ⟨g, 0, none⟩) n cap) n cs) : Sort.Holds id w g 0 cs.toArray := by
  rcases hown.2 with ⟨e0, _⟩ | ⟨g', cap', cur, e0, f1, f2, f3, f4, f5, f6⟩
  · cases e0
  · injection e0 with q1 q2 q3
    injection q1 with q1
    injection q1 with q1
    subst q1 q3
    intro j hj
    have hj' : j < cs.length := by simpa using hj
    have hc : cur.toList[j]? = some cs[j] := by
      have h1 : cs[j]? = some cs[j] := List.getElem?_eq_getElem hj'
      have h3 : (cur.toList.take (n * size))[j]? = some cs[j] := by rw [f6]; exact h1
      rw [List.getElem?_take] at h3
      split at h3
      · exact h3
      · cases h3
    refine ⟨?_, ?_⟩
    · simp only [World.cell?, f2, Nat.zero_add]
      simp only [Array.getElem?_toList] at hc
      simp [hc, hj']
    · simp [World.frozen?, f2]
theorem put_row {e : TypeId} {size g n m cap q : Nat} {cs cs' : List Value} {os : Array Obj} (hs : 0 < size) (hown : w.ownsRow B e size (.slice (some ⟨g, 0, none⟩) n cap) n cs) (hl : cs'.length = n * size) (hm : m ≤ n)
    (hw : w' = Sort.grow (Sort.putRow id (Sort.ahead w q) g 0 cs'.toArray) os) : w'.ownsRow B e size (.slice (some ⟨g, 0, none⟩) m cap) m (cs'.take (m * size)) ∧ GrownBy w w' (some g) := by
  rcases hown.2 with ⟨e0, _⟩ | ⟨g', cap', cur, e0, f1, f2, f3, f4, f5, f6⟩
  · cases e0
  · injection e0 with q1 q2 q3
    injection q1 with q1
    injection q1 with q1
    subst q1 q3
    have hlt : g < w.heap.size := lt_of_heap f2
    have hms : m * size ≤ n * size := Nat.mul_le_mul_right _ hm
    have hncap : n * size ≤ cap * size := Nat.mul_le_mul_right _ f3
    have hg : w'.heap[g]? = some (.cells (Sort.putCells id 0 cs'.toArray cur) e (0, 0)) := by
      rw [hw, Sort.heap_grow_old _ _ (by simp [Sort.ahead]; exact hlt)]
      simp only [Sort.putRow, Sort.mapBlock, Sort.ahead]
      rw [Array.getElem?_modify]
      simp [f2, Sort.onCells]
    refine ⟨⟨by rw [List.length_take, hl]; omega, .inr ⟨g, cap, _, rfl, f1, hg, by omega, f4, by simp [Sort.putCells, f5], ?_⟩⟩, ?_⟩
    · apply List.ext_getElem?
      intro j
      rw [List.getElem?_take, List.getElem?_take]
      by_cases hj : j < m * size
      · rw [if_pos hj, if_pos hj]
        have h1 : j < cur.size := by omega
        have h2 : j < cs'.length := by omega
        simp only [Sort.putCells, Array.toList_mapIdx, List.getElem?_mapIdx, Array.getElem?_toList]
        rw [Array.getElem?_eq_getElem h1]
        simp [h2]
      · rw [if_neg hj, if_neg hj]
    · rw [hw]
      refine ⟨rfl, rfl, rfl, by simp [Sort.ahead], fun k hk hne => ?_, Nat.le_add_right _ _⟩
      rw [Sort.heap_grow_old _ _ (by simp [Sort.ahead]; exact hk)]
      simp only [Sort.putRow, Sort.mapBlock, Sort.ahead]
      rw [Array.getElem?_modify, if_neg (fun e => hne (by rw [e]))]
theorem putRow_id {α : Type} [Inhabited α] (enc : α → Value) (w : World) (g : Nat) (d : List α) : Sort.putRow enc w g 0 d.toArray = Sort.putRow id w g 0 (d.map enc).toArray := by
  refine Sort.mapBlock_congr w g _ _ fun c e fr _ => ?_
  unfold Sort.putCells
  apply Array.ext_getElem?
  intro k
  simp only [Array.getElem?_mapIdx]
  congr 1
  funext x
  by_cases hk : k < d.length
  · simp [hk]
  · simp [hk]
theorem holds_id {α : Type} [Inhabited α] (enc : α → Value) (w : World) (g : Nat) (d : List α) (h : Sort.Holds id w g 0 (d.map enc).toArray) : Sort.Holds enc w g 0 d.toArray := by
  intro j hj
  have hj' : j < d.length := by simpa using hj
  have := h j (by simpa using hj')
  simpa [hj'] using this
theorem ints_cells : (xs : List Int) → (cs : List Value) → RowCells h (.int .i64) xs cs → cs = xs.map (Value.int .i64)
  | [], _, e => by simp only [RowCells] at e; subst e; rfl
  | x :: xs, _, ⟨d, r, e, h1, h2⟩ => by
    simp only [rep] at h1
    subst e h1
    rw [ints_cells xs r h2]
    rfl
theorem ints_row : (xs : List Int) → RowCells h (.int .i64) xs (xs.map (Value.int .i64))
  | [] => rfl
  | x :: xs => ⟨[.int .i64 x], _, rfl, rfl, ints_row xs⟩
theorem grownBy_refl (w : World) (r : Option Nat) : GrownBy w w r := GrownBy.refl w r
theorem sort_spec {P : Program} {f : FuncId} {e : TypeId} {fn : Func} {cd : Code} (hf : P.funcs[f]? = some fn) (hname : fn.name ≠ "runtime.NumGoroutine") (hb : fn.body = some cd) {pre : List Int → Prop} {post : List Int → List Int → Prop}
    (hpost : ∀ xs, pre xs → post xs (xs.mergeSort fun x y => decide (x ≤ y))) (hpre : ∀ xs, pre xs → xs.length < 4611686018427387904)
    (H : ∀ (blk off cap : Nat) (zs : List Int) (w : World), Sort.Holds (Value.int .i64) w blk off zs.toArray → blk < w.heap.size → zs.length < 4611686018427387904 →
      Calls P f #[.slice (some ⟨blk, off, none⟩) zs.length cap] w fun e w' => e = .returned (.tuple #[]) ∧ ∃ n os, w' = Sort.grow (Sort.putRow (Value.int .i64) (Sort.ahead w n) blk off (zs.mergeSort fun x y => decide (x ≤ y)).toArray) os)
    (H0 : ∀ (p : Option Addr) (cap : Nat) (w : World), Calls P f #[.slice p 0 cap] w fun e w' => e = .returned (.tuple #[]) ∧ w' = w) :
    RSpec P f { t := .int .i64, e := e, pre := pre, post := post, back := false } := by
  refine ⟨⟨fn, cd, hf, hname, hb⟩, ?_⟩
  intro xs h w B v cs hp hpin hB hown hrc hfr
  have hown : w.ownsRow B e 1 v xs.length cs := hown
  have hrc : RowCells h (.int .i64) xs cs := hrc
  have hcs := ints_cells xs cs hrc
  subst hcs
  simp only [tailVals, List.map_nil, List.append_nil]
  rcases hown.2 with ⟨e0, e1⟩ | ⟨g, cap, cur, e0, f1, f2, f3⟩
  · subst e0
    have hx : xs = [] := List.eq_nil_of_length_eq_zero e1
    subst hx
    refine (H0 none 0 w).mono ?_
    rintro en w' ⟨rfl, rfl⟩
    refine ⟨_, .slice none 0 0, _, [], rfl, hpost [] hp, by simpa using World.ownsRow_nil _ B e (Ty.size (.int .i64)), by simp [RowCells], grownBy_refl _ _, ⟨fun g hg => by simp [Value.ownBlock] at hg, rfl⟩⟩
  · subst e0
    refine (H g 0 cap xs w (holds_id _ w g xs (row_holds hown)) (lt_of_heap f2) (hpre xs hp)).mono ?_
    rintro en w' ⟨rfl, q, os, hw⟩
    rw [putRow_id] at hw
    have hl : (xs.mergeSort fun x y => decide (x ≤ y)).length = xs.length := List.length_mergeSort xs
    obtain ⟨g1, g2⟩ := put_row (m := xs.length) (by decide) hown (by rw [List.length_map, hl, Nat.mul_one]) (Nat.le_refl _) hw
    rw [List.take_of_length_le (by rw [List.length_map, hl]; exact Nat.le_of_eq (Nat.mul_one _).symm)] at g1
    refine ⟨_, _, _, _, rfl, hpost xs hp, by rw [hl]; exact g1, ints_row _, g2, fun g' hg => .inl hg, rfl⟩
theorem compact_spec {P : Program} {f : FuncId} {e : TypeId} {fn : Func} {cd : Code} (hf : P.funcs[f]? = some fn) (hname : fn.name ≠ "runtime.NumGoroutine") (hb : fn.body = some cd) {pre : List Int → Prop} {post : List Int → List Int → Prop} {C : List Int → List Int}
    (hC : ∀ xs, (C xs).length ≤ xs.length) (hC0 : C [] = []) (hpost : ∀ xs, pre xs → post xs (C xs)) (hpre : ∀ xs, pre xs → xs.length ≤ 9223372036854775807)
    (H : ∀ (blk off cap : Nat) (zs : List Int) (w : World), Sort.Holds (Value.int .i64) w blk off zs.toArray → zs.length ≤ 9223372036854775807 → zs.length ≤ cap →
      Calls P f #[.slice (some ⟨blk, off, none⟩) zs.length cap] w fun e w' => e = .returned (.slice (some ⟨blk, off, none⟩) (C zs).length cap) ∧ ∃ q, w' = Sort.putRow (Value.int .i64) (Sort.ahead w q) blk off (C zs ++ List.replicate (zs.length - (C zs).length) 0).toArray)
    (H0 : ∀ (p : Option Addr) (cap : Nat) (w : World), Calls P f #[.slice p 0 cap] w fun e w' => e = .returned (.slice p 0 cap) ∧ w' = w) :
    RSpec P f { t := .int .i64, e := e, pre := pre, post := post, back := true } := by
  refine ⟨⟨fn, cd, hf, hname, hb⟩, ?_⟩
  intro xs h w B v cs hp hpin hB hown hrc hfr
  have hown : w.ownsRow B e 1 v xs.length cs := hown
  have hrc : RowCells h (.int .i64) xs cs := hrc
  have hcs := ints_cells xs cs hrc
  subst hcs
  simp only [tailVals, List.map_nil, List.append_nil]
  rcases hown.2 with ⟨e0, e1⟩ | ⟨g, cap, cur, e0, f1, f2, f3, f4⟩
  · subst e0
    have hx : xs = [] := List.eq_nil_of_length_eq_zero e1
    subst hx
    refine (H0 none 0 w).mono ?_
    rintro en w' ⟨rfl, rfl⟩
    have hp2 := hpost [] hp
    rw [hC0] at hp2
    exact ⟨_, .slice none 0 0, [], [], rfl, hp2, World.ownsRow_nil _ B e 1, rfl, grownBy_refl _ _, ⟨fun g hg => by simp [Value.ownBlock] at hg, rfl⟩⟩
  · subst e0
    refine (H g 0 cap xs w (holds_id _ w g xs (row_holds hown)) (hpre xs hp) f3).mono ?_
    rintro en w' ⟨rfl, q, hw⟩
    rw [putRow_id] at hw
    have hl := hC xs
    have hw2 : w' = Sort.grow (Sort.putRow id (Sort.ahead w q) g 0 ((C xs ++ List.replicate (xs.length - (C xs).length) 0).map (Value.int .i64)).toArray) #[] := by rw [hw]; simp
    obtain ⟨g1, g2⟩ := put_row (m := (C xs).length) (by decide) hown (by simp; omega) hl hw2
    have ht : ((C xs ++ List.replicate (xs.length - (C xs).length) 0).map (Value.int .i64)).take ((C xs).length * 1) = (C xs).map (Value.int .i64) := by
      rw [List.map_append]
      have : (C xs).length * 1 = ((C xs).map (Value.int .i64)).length := by rw [List.length_map]; exact Nat.mul_one _
      rw [this]
      exact List.take_left
    rw [ht] at g1
    exact ⟨_, _, _, _, rfl, hpost xs hp, g1, ints_row _, g2, fun g' hg => .inl hg, rfl⟩
end
end Go.Fr
namespace Go.Fr
open Go Go.Proofs Go.Sort
def insBy {α : Type} (cf : α → α → Int) (x : α) : List α → List α
  | [] => [x]
  | y :: r => if cf x y < 0 then x :: y :: r else y :: insBy cf x r
section
variable {α : Type} {cf : α → α → Int}
theorem uniq_sorted {le : α → α → Prop} (anti : ∀ a b, le a b → le b a → a = b) : (l m : List α) → l.Perm m → l.Pairwise le → m.Pairwise le → l = m
  | [], m, hp, _, _ => (List.nil_perm.1 hp).symm
  | x :: l, [], hp, _, _ => by have := hp.length_eq; simp at this
  | x :: l, y :: m, hp, h1, h2 => by
    have hx := List.pairwise_cons.1 h1
    have hy := List.pairwise_cons.1 h2
    have e : x = y := by
      have m1 : x ∈ y :: m := hp.subset (List.mem_cons_self ..)
      have m2 : y ∈ x :: l := hp.symm.subset (List.mem_cons_self ..)
      rcases List.mem_cons.1 m1 with e | m1
      · exact e
      · rcases List.mem_cons.1 m2 with e | m2
        · exact e.symm
        · exact anti _ _ (hx.1 _ m2) (hy.1 _ m1)
    subst e
    rw [uniq_sorted anti l m (List.Perm.cons_inv hp) hx.2 hy.2]
theorem insBy_perm (x : α) : (l : List α) → (insBy cf x l).Perm (x :: l)
  | [] => List.Perm.refl _
  | y :: r => by
    unfold insBy
    split
    · exact List.Perm.refl _
    · exact ((insBy_perm x r).cons y).trans (List.Perm.swap x y r)
theorem lt_of {x y : α} : ltOf cf x y = true ↔ cf x y < 0 := by unfold ltOf; simp
theorem lt_of_f {x y : α} : ltOf cf x y = false ↔ ¬ cf x y < 0 := by unfold ltOf; simp
theorem insBy_sorted (hO : SWO (ltOf cf)) (x : α) : (l : List α) → l.Pairwise (fun a b => ¬ cf b a < 0) → (insBy cf x l).Pairwise (fun a b => ¬ cf b a < 0)
  | [], _ => by simp [insBy]
  | y :: r, h => by
    have hy := List.pairwise_cons.1 h
    unfold insBy
    split
    · rename_i hxy
      refine List.pairwise_cons.2 ⟨fun z hz => ?_, h⟩
      rcases List.mem_cons.1 hz with e | hz
      · subst e
        intro h2
        have := hO.trans _ _ _ (lt_of.2 hxy) (lt_of.2 h2)
        rw [hO.irrefl] at this
        cases this
      · intro h2
        exact hy.1 z hz (lt_of.1 (hO.trans _ _ _ (lt_of.2 h2) (lt_of.2 hxy)))
    · rename_i hxy
      refine List.pairwise_cons.2 ⟨fun z hz => ?_, insBy_sorted hO x r hy.2⟩
      rcases List.mem_cons.1 ((insBy_perm x r).subset hz) with e | hz
      · subst e; exact hxy
      · exact hy.1 z hz
theorem sortBy_perm (l : List α) : (sortBy cf l).Perm l := List.mergeSort_perm l _
theorem sortBy_sorted (hO : SWO (ltOf cf)) (l : List α) : (sortBy cf l).Pairwise (fun a b => ¬ cf b a < 0) := by
  have := List.pairwise_mergeSort (le := fun x y => !decide (cf y x < 0)) (fun a b c h1 h2 => by
    simp only [Bool.not_eq_true', decide_eq_false_iff_not] at *
    exact lt_of_f.1 (hO.ntrans _ _ _ (lt_of_f.2 h2) (lt_of_f.2 h1))) (fun a b => by
    simp only [Bool.or_eq_true, Bool.not_eq_true', decide_eq_false_iff_not]
    by_cases h : cf b a < 0
    · right
      intro h2
      have := hO.trans _ _ _ (lt_of.2 h) (lt_of.2 h2)
      rw [hO.irrefl] at this
      cases this
    · exact .inl h) l
  exact this.imp fun h => by simpa using h
theorem sorted_is (hO : SWO (ltOf cf)) (hT : ∀ x y, ltOf cf x y = false → ltOf cf y x = false → x = y) {l m : List α} (hp : l.Perm m) (hs : l.Pairwise (fun a b => ¬ cf b a < 0)) : l = sortBy cf m :=
  uniq_sorted (fun a b h1 h2 => hT a b (lt_of_f.2 h2) (lt_of_f.2 h1)) l _ (hp.trans (sortBy_perm m).symm) hs (sortBy_sorted hO m)
theorem ins_all (hO : SWO (ltOf cf)) (l out : List α) (h : out.Pairwise (fun a b => ¬ cf b a < 0)) : (l.foldl (fun o x => insBy cf x o) out).Perm (out ++ l) ∧ (l.foldl (fun o x => insBy cf x o) out).Pairwise (fun a b => ¬ cf b a < 0) := by
  induction l generalizing out with
  | nil => simpa using h
  | cons x r ih =>
    obtain ⟨h1, h2⟩ := ih (insBy cf x out) (insBy_sorted hO x out h)
    refine ⟨h1.trans ?_, h2⟩
    have := (insBy_perm (cf := cf) x out).append_right r
    exact this.trans (by simpa using (List.perm_middle (a := x) (l₁ := out) (l₂ := r)).symm)
theorem ins_sort (hO : SWO (ltOf cf)) (hT : ∀ x y, ltOf cf x y = false → ltOf cf y x = false → x = y) (l : List α) : l.foldl (fun o x => insBy cf x o) [] = sortBy cf l := by
  obtain ⟨h1, h2⟩ := ins_all hO l [] List.Pairwise.nil
  exact sorted_is hO hT (by simpa using h1) h2
end
section
variable {α : Type} {f : α → Bool} {d : α}
theorem take_one (d : α) {l : List α} {k : Nat} (h : k < l.length) : l.take (k + 1) = l.take k ++ [l.getD k d] := by
  rw [List.take_succ_eq_append_getElem h]
  simp [List.getD, h]
theorem getD_is (d : α) {l : List α} {k : Nat} (h : k < l.length) : l.getD k d = l[k] := by simp [List.getD, h]
def DelI (f : α → Bool) (d : α) (xs a : List α) (i j : Nat) : Prop := a.length = xs.length ∧ j ≤ xs.length ∧ i < j ∧ a.take i = (xs.take j).filter f ∧ ∀ q, j ≤ q → a.getD q d = xs.getD q d
theorem filter_one {xs : List α} {j : Nat} (h : j < xs.length) : (xs.take (j + 1)).filter f = (xs.take j).filter f ++ (if f (xs.getD j d) then [xs.getD j d] else []) := by
  rw [take_one d h, List.filter_append]
  congr 1
  by_cases hk : f (xs.getD j d) = true
  · rw [List.filter_cons_of_pos hk, if_pos hk]; rfl
  · rw [List.filter_cons_of_neg hk, if_neg hk]; rfl
theorem DelI.keep {xs a : List α} {i j : Nat} (h : DelI f d xs a i j) (hj : j < xs.length) (hk : f (a.getD j d) = true) : DelI f d xs (a.set i (a.getD j d)) (i + 1) (j + 1) := by
  obtain ⟨h1, h2, h3, h4, h5⟩ := h
  have e := h5 j (Nat.le_refl _)
  rw [e] at hk ⊢
  refine ⟨by rw [List.length_set]; exact h1, hj, by omega, ?_, fun q hq => ?_⟩
  · rw [filter_one (d := d) hj, if_pos hk, ← h4]
    rw [List.take_succ_eq_append_getElem (by rw [List.length_set]; omega), List.take_set_of_le (Nat.le_refl _), List.getElem_set_self]
  · rw [← h5 q (by omega), List.getD_eq_getElem?_getD, List.getElem?_set_ne (by omega), ← List.getD_eq_getElem?_getD]
theorem DelI.drop {xs a : List α} {i j : Nat} (h : DelI f d xs a i j) (hj : j < xs.length) (hk : f (a.getD j d) = false) : DelI f d xs a i (j + 1) := by
  obtain ⟨h1, h2, h3, h4, h5⟩ := h
  have e := h5 j (Nat.le_refl _)
  rw [e] at hk
  refine ⟨h1, hj, by omega, ?_, fun q hq => h5 q (by omega)⟩
  rw [filter_one (d := d) hj, if_neg (by rw [hk]; decide), List.append_nil]
  exact h4
theorem DelI.init {xs : List α} {k : Nat} (hk : k < xs.length) (hs : ∀ j, j < k → f (xs.getD j d) = true) (hn : f (xs.getD k d) = false) : DelI f d xs xs k (k + 1) := by
  refine ⟨rfl, hk, by omega, ?_, fun q _ => rfl⟩
  rw [filter_one (d := d) hk, if_neg (by rw [hn]; decide), List.append_nil]
  rw [List.filter_eq_self.2]
  intro m hm
  obtain ⟨i, hi, e⟩ := List.getElem_of_mem hm
  rw [List.length_take] at hi
  have := hs i (by omega)
  rw [getD_is d (by omega)] at this
  rw [← e, List.getElem_take]
  exact this
theorem filter_whole {xs : List α} (hs : ∀ j, j < xs.length → f (xs.getD j d) = true) : xs.filter f = xs := by
  rw [List.filter_eq_self]
  intro m hm
  obtain ⟨i, hi, e⟩ := List.getElem_of_mem hm
  have := hs i hi
  rw [getD_is d hi, e] at this
  exact this
theorem DelI.last {xs a : List α} {i : Nat} (h : DelI f d xs a i xs.length) (z : α) : (a.take i ++ List.replicate (a.length - i) z).take i = xs.filter f := by
  obtain ⟨h1, h2, h3, h4, h5⟩ := h
  rw [List.take_append_of_le_length (by rw [List.length_take]; omega), List.take_take, Nat.min_self, h4, List.take_length]
end
section
variable {α : Type}
theorem sort_one_way {cf : α → α → Int} (hO : SWO (ltOf cf)) {xs ys : List α} (hT : ∀ x ∈ xs, ∀ y ∈ xs, ltOf cf x y = false → ltOf cf y x = false → x = y) (hp : ys.Perm xs) (hs : ys.Pairwise (fun a b => ¬ cf b a < 0)) : ys = sortBy cf xs := by
  have hs2 : (sortBy cf xs).Pairwise (fun x y => (!(ltOf cf) y x) = true) := by
    refine List.pairwise_mergeSort ?_ ?_ _
    · intro a b c h1 h2
      simp only [Bool.not_eq_true'] at h1 h2 ⊢
      exact hO.ntrans c b a h2 h1
    · intro a b
      cases h : ltOf cf b a with
      | false => simp
      | true =>
        cases h2 : ltOf cf a b with
        | false => simp
        | true =>
          have := hO.trans a b a h2 h
          rw [hO.irrefl] at this
          cases this
  refine List.Perm.eq_of_pairwise (le := fun x y => (!(ltOf cf) y x) = true) ?_ ?_ hs2 (hp.trans (List.mergeSort_perm _ _).symm)
  · intro a b ha hb h1 h2
    simp only [Bool.not_eq_true'] at h1 h2
    have hb' := (List.mergeSort_perm xs _).subset hb
    exact hT a (hp.subset ha) b hb' h2 h1
  · refine hs.imp fun {a b} h => ?_
    simp only [Bool.not_eq_true']
    exact decide_eq_false h
end
end Go.Fr
namespace Go.Fr.Z14
open Go Go.Fr Go.Proofs
open Go.Sort
theorem cmpI_lt {a b : Int} : cmpI a b < 0 ↔ a < b := by unfold cmpI; split <;> (try split) <;> omega
theorem cmpI_eq {a b : Int} : cmpI a b = 0 ↔ a = b := by unfold cmpI; split <;> (try split) <;> omega
theorem nz_lt {x : Int} {r : List Int} : firstNZ (x :: r) < 0 ↔ x < 0 ∨ (x = 0 ∧ firstNZ r < 0) := by
  show (if x = 0 then firstNZ r else x) < 0 ↔ _
  split <;> omega
theorem cmpL_lt {a b : Inl} : cmpL a b < 0 ↔ a.2.1 < b.2.1 ∨ (a.2.1 = b.2.1 ∧ (a.2.2.2.1 < b.2.2.2.1 ∨ (a.2.2.2.1 = b.2.2.2.1 ∧ a.1 < b.1))) := by
  unfold cmpL
  rw [nz_lt, nz_lt, nz_lt, cmpI_lt, cmpI_lt, cmpI_lt, cmpI_eq, cmpI_eq, cmpI_eq]
  have : ¬ firstNZ [] < 0 := by decide
  simp only [this, and_false, or_false]
theorem ltL {x y : Inl} : ltOf cmpL x y = decide (x.2.1 < y.2.1 ∨ (x.2.1 = y.2.1 ∧ (x.2.2.2.1 < y.2.2.2.1 ∨ (x.2.2.2.1 = y.2.2.2.1 ∧ x.1 < y.1)))) := by
  unfold ltOf
  exact decide_eq_decide.2 cmpL_lt
theorem swoL : SWO (ltOf cmpL) where
  irrefl x := by rw [ltL]; simp
  trans x y z h1 h2 := by
    rw [ltL] at *
    rw [decide_eq_true_eq] at *
    omega
  ntrans x y z h1 h2 := by
    rw [ltL] at *
    rw [decide_eq_false_iff_not] at *
    omega
theorem alikeL {x y : Inl} (h1 : ltOf cmpL x y = false) (h2 : ltOf cmpL y x = false) : x.1 = y.1 := by
  rw [ltL] at h1 h2
  rw [decide_eq_false_iff_not] at h1 h2
  omega
theorem ahead_lt {a b : Inl} : aheadI a b = true ↔ cmpL a b < 0 := by
  rw [cmpL_lt]
  unfold aheadI
  split
  · rw [decide_eq_true_eq]; omega
  · split
    · rw [decide_eq_true_eq]; omega
    · rw [decide_eq_true_eq]; omega
end Go.Fr.Z14
namespace Go.Fr.Z14
open Go Go.Fr Go.Proofs
theorem decode_nl (s : ByteArray) (i : Nat) : ((Utf8.decode s i).1 = 10 ↔ byt s i = 10) ∧ ∀ k, 1 ≤ k → k < (Utf8.decode s i).2 → byt s (i + k) ≠ 10 := by
  have b0 := byt_lt s i
  rw [decode_eq]
  have fin : ∀ k : Nat, 1 ≤ k → k < 4 → (byt s (i + 1) / 64 = 2) → (k < 3 → k = 2 → byt s (i + 2) / 64 = 2) → (k = 3 → byt s (i + 3) / 64 = 2) → byt s (i + k) ≠ 10 := by
    intro k h1 h2 h3 h4 h5
    have : k = 1 ∨ k = 2 ∨ k = 3 := by omega
    rcases this with e | e | e
    · subst e; omega
    · subst e; have := h4 (by omega) rfl; omega
    · subst e; have := h5 rfl; omega
  split
  · exact ⟨Iff.rfl, fun k h1 h2 => by simp only at h2; omega⟩
  · split
    · rename_i h
      split
      · exact ⟨by simp only; omega, fun k h1 h2 => fin k h1 (by simp only at h2; omega) h.2.2 (fun _ _ => by simp only at h2; omega) (fun _ => by simp only at h2; omega)⟩
      · exact ⟨by simp only; omega, fun k h1 h2 => by simp only at h2; omega⟩
    · split
      · rename_i h
        split
        · exact ⟨by simp only; omega, fun k h1 h2 => fin k h1 (by simp only at h2; omega) h.2.1.2 (fun _ _ => h.2.2.2) (fun _ => by simp only at h2; omega)⟩
        · exact ⟨by simp only; omega, fun k h1 h2 => by simp only at h2; omega⟩
      · split
        · rename_i h
          split
          · exact ⟨by simp only; omega, fun k h1 h2 => fin k h1 (by simp only at h2; omega) h.2.1.2 (fun _ _ => h.2.2.1.2) (fun _ => h.2.2.2.2)⟩
          · exact ⟨by simp only; omega, fun k h1 h2 => by simp only at h2; omega⟩
        · exact ⟨by simp only; omega, fun k h1 h2 => by simp only at h2; omega⟩
theorem nl_at (s : ByteArray) : ∀ (f p : Nat), s.size ≤ p + f → ((10 : Int) ∈ decAt s p ↔ ∃ q, p ≤ q ∧ q < s.size ∧ byt s q = 10)
  | 0, p, h => by
    rw [decAt_end (by omega)]
    constructor
    · intro h; cases h
    · rintro ⟨q, h1, h2, _⟩; omega
  | f + 1, p, h => by
    by_cases hp : p < s.size
    · have hw := decode_width s p hp
      obtain ⟨g1, g2⟩ := decode_nl s p
      have ih := nl_at s f (p + (Utf8.decode s p).2) (by omega)
      rw [decAt_step hp, List.mem_cons, ih]
      constructor
      · rintro (e | ⟨q, h1, h2, h3⟩)
        · exact ⟨p, Nat.le_refl _, hp, g1.1 (by omega)⟩
        · exact ⟨q, by omega, h2, h3⟩
      · rintro ⟨q, h1, h2, h3⟩
        by_cases e : q < p + (Utf8.decode s p).2
        · by_cases e0 : q = p
          · subst e0
            exact .inl (by have := g1.2 h3; omega)
          · have := g2 (q - p) (by omega) (by omega)
            rw [show p + (q - p) = q by omega] at this
            exact absurd h3 this
        · exact .inr ⟨q, by omega, h2, h3⟩
    · rw [decAt_end (by omega)]
      constructor
      · intro h; cases h
      · rintro ⟨q, h1, h2, _⟩; omega
theorem nl_byt (s : ByteArray) : hasNL s = true ↔ ∃ q, q < s.size ∧ byt s q = 10 := by
  unfold hasNL
  rw [List.contains_iff_mem]
  have hg : ∀ q, q < s.size → ∀ h : q < s.data.toList.length, s.data.toList[q] = s.get! q := fun q hq h => by
    show s.data.toList[q] = s.data[q]!
    rw [getElem!_pos s.data q (by simpa using h)]
    simp
  constructor
  · intro h
    obtain ⟨q, hq, e⟩ := List.getElem_of_mem h
    have hq' : q < s.size := by simpa using hq
    refine ⟨q, hq', ?_⟩
    unfold byt
    rw [← hg q hq' hq, e]
    rfl
  · rintro ⟨q, hq, e⟩
    have hq' : q < s.data.toList.length := by simpa using hq
    unfold byt at e
    have : s.get! q = 10 := UInt8.toNat_inj.1 e
    rw [← this, ← hg q hq hq']
    exact List.getElem_mem _
theorem nl_dec (s : ByteArray) : hasNL s = true ↔ (10 : Int) ∈ decodeL s := by
  rw [nl_byt]
  show _ ↔ (10 : Int) ∈ decAt s 0
  rw [nl_at s s.size 0 (by omega)]
  constructor
  · rintro ⟨q, h1, h2⟩; exact ⟨q, Nat.zero_le _, h1, h2⟩
  · rintro ⟨q, _, h1, h2⟩; exact ⟨q, h1, h2⟩
theorem dec_none (s : ByteArray) : (decodeL s).length = 0 ↔ s.size = 0 := by
  constructor
  · intro h
    by_cases hp : 0 < s.size
    · have : decodeL s = decAt s 0 := rfl
      rw [this, decAt_step hp] at h
      cases h
    · omega
  · intro h
    have : decodeL s = decAt s 0 := rfl
    rw [this, decAt_end (by omega)]
    rfl
theorem empty_iff (s : ByteArray) : s.toList = (ByteArray.mk #[]).toList ↔ s.size = 0 := by
  constructor
  · intro h
    have := toList_inj h
    rw [this]
    rfl
  · intro h
    have : s = ByteArray.mk #[] := by
      cases s with
      | mk d =>
        have : d.size = 0 := h
        rw [Array.size_eq_zero_iff.1 this]
    rw [this]
theorem wi_1 {n : Int} {x : Inl} (h : x.1 < 1 ∨ x.2.1 < 0 ∨ x.2.1 > n ∨ (x.2.2.1 ≠ 0 ∧ x.2.2.1 ≠ 1)) : (1 : Int) = wrongI n x := by
  unfold wrongI
  rw [if_pos h]
theorem wi_2 {n : Int} {x : Inl} (h : ¬ (x.1 < 1 ∨ x.2.1 < 0 ∨ x.2.1 > n ∨ (x.2.2.1 ≠ 0 ∧ x.2.2.1 ≠ 1))) (h2 : ((decodeL (txt x)).length : Int) > 40) : (2 : Int) = wrongI n x := by
  unfold wrongI
  rw [if_neg h, if_pos h2]
theorem wi_4 {n : Int} {x : Inl} (h : ¬ (x.1 < 1 ∨ x.2.1 < 0 ∨ x.2.1 > n ∨ (x.2.2.1 ≠ 0 ∧ x.2.2.1 ≠ 1))) (h2 : ¬ ((decodeL (txt x)).length : Int) > 40) (h3 : (txt x).size = 0 ∨ hasNL (txt x) = true) : (4 : Int) = wrongI n x := by
  unfold wrongI
  rw [if_neg h, if_neg h2, if_pos h3]
theorem wi_0 {n : Int} {x : Inl} (h : ¬ (x.1 < 1 ∨ x.2.1 < 0 ∨ x.2.1 > n ∨ (x.2.2.1 ≠ 0 ∧ x.2.2.1 ≠ 1))) (h2 : ¬ ((decodeL (txt x)).length : Int) > 40) (h3 : ¬ ((txt x).size = 0 ∨ hasNL (txt x) = true)) : (0 : Int) = wrongI n x := by
  unfold wrongI
  rw [if_neg h, if_neg h2, if_neg h3]
theorem p21 : vc21 := by
  unfold vc21
  simp only [eq_self, true_and, decide_eq_true_eq, decide_eq_false_iff_not, beq_iff_eq, beq_eq_false_iff_ne, bne_iff_ne, bne_eq_false_iff_eq, ne_eq]
  rintro ⟨n, x, ⟨⟩⟩
  simp only [maxLen_eq, empty_iff]
  intro hs
  have et : x.2.2.2.2.1 = txt x := rfl
  rw [et]
  have f : ¬ x.1 < 1 → ¬ x.2.1 < 0 → ¬ x.2.1 > n → ¬ (x.2.2.1 ≠ 0 ∧ x.2.2.1 ≠ 1) → ¬ (x.1 < 1 ∨ x.2.1 < 0 ∨ x.2.1 > n ∨ (x.2.2.1 ≠ 0 ∧ x.2.2.1 ≠ 1)) := by
    intro a b c d h
    rcases h with h | h | h | h
    · exact a h
    · exact b h
    · exact c h
    · exact d h
  have tail : ¬ (x.1 < 1 ∨ x.2.1 < 0 ∨ x.2.1 > n ∨ (x.2.2.1 ≠ 0 ∧ x.2.2.1 ≠ 1)) → (txt x).size ≤ 9223372036854775807 ∧ (((decodeL (txt x)).length : Int) > 40 → (2 : Int) = wrongI n x) ∧ (¬ ((decodeL (txt x)).length : Int) > 40 →
      ((txt x).size = 0 → (4 : Int) = wrongI n x) ∧ (¬ (txt x).size = 0 → (hasNL (txt x) = true → (4 : Int) = wrongI n x) ∧ (hasNL (txt x) = false → (0 : Int) = wrongI n x))) := fun g =>
    ⟨hs, fun h => wi_2 g h, fun h => ⟨fun h2 => wi_4 g h (.inl h2), fun h2 => ⟨fun h3 => wi_4 g h (.inr h3), fun h3 => wi_0 g h (fun hh => hh.elim h2 (fun hh => by rw [hh] at h3; cases h3))⟩⟩⟩
  exact ⟨fun h => wi_1 (.inl h), fun a => ⟨fun h => wi_1 (.inr (.inl h)), fun b => ⟨fun h => wi_1 (.inr (.inr (.inl h))), fun c => ⟨fun d => ⟨fun e => wi_1 (.inr (.inr (.inr ⟨d, e⟩))), fun e => tail (f a b c (fun hh => hh.2 e))⟩, fun d => tail (f a b c (fun hh => hh.1 d))⟩⟩⟩⟩
def zI : Inl := (0, 0, 0, 0, ByteArray.empty, ())
theorem d48 : Ty.dflt t48 = zI := rfl
theorem d3 : Ty.dflt t3 = (0 : Int) := rfl
theorem ww_1 {n : Int} {l : List Inl} {x : Inl} {e : Int} (h : e = wrongI n x) (he : e ≠ 0) : e = wrongW n l x := by
  unfold wrongW
  rw [if_pos (by rw [← h]; exact he), h]
theorem ww_8 {n : Int} {l : List Inl} {x : Inl} (h : (0 : Int) = wrongI n x) (he : hasId x.1 l = true) : (8 : Int) = wrongW n l x := by
  unfold wrongW
  rw [if_neg (by rw [← h]; decide), if_pos he]
theorem ww_0 {n : Int} {l : List Inl} {x : Inl} (h : (0 : Int) = wrongI n x) (he : hasId x.1 l = false) : (0 : Int) = wrongW n l x := by
  unfold wrongW
  rw [if_neg (by rw [← h]; decide), if_neg (by rw [he]; decide)]
theorem hasId_iff {i : Int} {l : List Inl} : hasId i l = true ↔ ∃ x ∈ l, x.1 = i := by simp [hasId]
theorem hasId_of {i : Int} {l : List Inl} {j : Nat} (hj : j < l.length) (h : (l.getD j zI).1 = i) : hasId i l = true :=
  hasId_iff.2 ⟨l.getD j zI, by rw [getD_of zI hj]; exact List.getElem_mem _, h⟩
theorem hasId_no {i : Int} {l : List Inl} (h : ∀ j, j < l.length → (l.getD j zI).1 ≠ i) : hasId i l = false := by
  cases hc : hasId i l with
  | false => rfl
  | true =>
    obtain ⟨x, hx, e⟩ := hasId_iff.1 hc
    obtain ⟨j, hj, he⟩ := List.getElem_of_mem hx
    exact absurd (by rw [getD_of zI hj, he]; exact e) (h j hj)
theorem p25 : vc25 := by
  unfold vc25
  simp only [eq_self, true_and, and_true, decide_eq_true_eq, decide_eq_false_iff_not, beq_iff_eq, beq_eq_false_iff_ne, bne_iff_ne, bne_eq_false_iff_eq, ne_eq]
  rintro ⟨n, l, x, ⟨⟩⟩
  simp only [maxLen_eq, d48, d21]
  rintro ⟨hl, hs⟩
  have et : x.2.2.2.2.1 = txt x := rfl
  rw [et]
  have dl := decL_len (txt x)
  have f : ¬ x.1 < 1 → ¬ x.2.1 < 0 → ¬ x.2.1 > n → ¬ (x.2.2.1 ≠ 0 ∧ x.2.2.1 ≠ 1) → ¬ (x.1 < 1 ∨ x.2.1 < 0 ∨ x.2.1 > n ∨ (x.2.2.1 ≠ 0 ∧ x.2.2.1 ≠ 1)) := by
    intro a b c d h
    rcases h with h | h | h | h
    · exact a h
    · exact b h
    · exact c h
    · exact d h
  have o1 : (x.1 < 1 ∨ x.2.1 < 0 ∨ x.2.1 > n ∨ (x.2.2.1 ≠ 0 ∧ x.2.2.1 ≠ 1)) → (1 : Int) = wrongW n l x := fun h => ww_1 (wi_1 h) (by decide)
  have tail : ¬ (x.1 < 1 ∨ x.2.1 < 0 ∨ x.2.1 > n ∨ (x.2.2.1 ≠ 0 ∧ x.2.2.1 ≠ 1)) → (txt x).size ≤ 1000000000 ∧ (((decodeL (txt x)).length : Int) > 40 → (2 : Int) = wrongW n l x) ∧ (¬ ((decodeL (txt x)).length : Int) > 40 →
      (((decodeL (txt x)).length : Int) = 0 → (4 : Int) = wrongW n l x) ∧ (¬ ((decodeL (txt x)).length : Int) = 0 → ∃ (Z : Int × Unit → Prop), ∃ (μ : Int × Unit → Nat), Z (0, ()) ∧ ∀ a : Int, Z (a, ()) →
        (a < ((decodeL (txt x)).length : Int) → (0 ≤ a ∧ a < ((decodeL (txt x)).length : Int)) ∧ ((decodeL (txt x)).getD a.toNat 0 = 10 → (4 : Int) = wrongW n l x) ∧ (¬ (decodeL (txt x)).getD a.toNat 0 = 10 → Z (IntKind.i64.wrap (a + 1), ()) ∧ μ (IntKind.i64.wrap (a + 1), ()) < μ (a, ()))) ∧
        (¬ a < ((decodeL (txt x)).length : Int) → ∃ (Z : Int × Unit → Prop), ∃ (μ : Int × Unit → Nat), Z (0, ()) ∧ ∀ a : Int, Z (a, ()) →
          (a < (l.length : Int) → (0 ≤ a ∧ a < (l.length : Int)) ∧ ((l.getD a.toNat zI).1 = x.1 → (8 : Int) = wrongW n l x) ∧ (¬ (l.getD a.toNat zI).1 = x.1 → Z (IntKind.i64.wrap (a + 1), ()) ∧ μ (IntKind.i64.wrap (a + 1), ()) < μ (a, ()))) ∧
          (¬ a < (l.length : Int) → (0 : Int) = wrongW n l x)))) := by
    intro g
    refine ⟨hs, fun h => ww_1 (wi_2 g h) (by decide), fun h => ⟨fun h2 => ww_1 (wi_4 g h (.inl ((dec_none _).1 (by omega)))) (by decide), fun h2 => ?_⟩⟩
    have hne : ¬ (txt x).size = 0 := fun e => h2 (by have := (dec_none (txt x)).2 e; omega)
    have hnl := nl_dec (txt x)
    have h' := h
    generalize decodeL (txt x) = r at dl h h2 hnl ⊢
    refine ⟨fun z => ∃ k : Nat, k ≤ r.length ∧ z.1 = (k : Int) ∧ ∀ j, j < k → r.getD j 0 ≠ 10, fun z => r.length - z.1.toNat, ⟨0, Nat.zero_le _, rfl, fun j hj => by omega⟩, ?_⟩
    rintro i ⟨k, hk, hi, hno⟩
    simp only at hi
    subst hi
    refine ⟨fun h3 => ⟨⟨by omega, h3⟩, fun h4 => ?_, fun h4 => ?_⟩, fun h3 => ?_⟩
    · rw [toNat_cast] at h4
      have hlt : k < r.length := by omega
      refine ww_1 (wi_4 g h' (.inr (hnl.2 ?_))) (by decide)
      rw [← h4, getD_of 0 hlt]
      exact List.getElem_mem _
    · have hw : IntKind.i64.wrap ((k : Int) + 1) = ((k + 1 : Nat) : Int) := wrap_succ (by omega)
      rw [toNat_cast] at h4
      rw [hw]
      refine ⟨⟨k + 1, by omega, rfl, fun j hj => ?_⟩, by simp only [toNat_cast]; omega⟩
      by_cases e : j = k
      · subst e; exact h4
      · exact hno j (by omega)
    · have hke : k = r.length := by omega
      subst hke
      have w0 : (0 : Int) = wrongI n x := wi_0 g h' (fun hh => hh.elim hne fun hh => by
        have := hnl.1 hh
        obtain ⟨j, hj, e⟩ := List.getElem_of_mem this
        exact hno j hj (by rw [getD_of 0 hj]; exact e))
      refine ⟨fun z => ∃ k : Nat, k ≤ l.length ∧ z.1 = (k : Int) ∧ ∀ j, j < k → (l.getD j zI).1 ≠ x.1, fun z => l.length - z.1.toNat, ⟨0, Nat.zero_le _, rfl, fun j hj => by omega⟩, ?_⟩
      rintro i ⟨k, hk, hi, hno⟩
      simp only at hi
      subst hi
      refine ⟨fun h3 => ⟨⟨by omega, h3⟩, fun h4 => ?_, fun h4 => ?_⟩, fun h3 => ?_⟩
      · rw [toNat_cast] at h4
        exact ww_8 w0 (hasId_of (by omega) h4)
      · have hw : IntKind.i64.wrap ((k : Int) + 1) = ((k + 1 : Nat) : Int) := wrap_succ (by omega)
        rw [toNat_cast] at h4
        rw [hw]
        refine ⟨⟨k + 1, by omega, rfl, fun j hj => ?_⟩, by simp only [toNat_cast]; omega⟩
        by_cases e : j = k
        · subst e; exact h4
        · exact hno j (by omega)
      · exact ww_0 w0 (hasId_no fun j hj => hno j (by omega))
  exact ⟨fun h => o1 (.inl h), fun a => ⟨fun h => o1 (.inr (.inl h)), fun b => ⟨fun h => o1 (.inr (.inr (.inl h))), fun c => ⟨fun d => ⟨fun e => o1 (.inr (.inr (.inr ⟨d, e⟩))), fun e => tail (f a b c (fun hh => hh.2 e))⟩, fun d => tail (f a b c (fun hh => hh.1 d))⟩⟩⟩⟩
theorem p28 : vc28 := by
  unfold vc28
  simp only [bne_iff_ne, bne_eq_false_iff_eq, ne_eq]
  rintro ⟨a, b, ⟨⟩⟩
  simp only [true_imp_iff]
  unfold aheadI
  refine ⟨fun h => by rw [if_pos h], fun h => ⟨fun h2 => by rw [if_neg (fun hh => hh h), if_pos h2], fun h2 => by rw [if_neg (fun hh => hh h), if_neg (fun hh => hh h2)]⟩⟩
theorem p32 : vc32 := by
  unfold vc32
  simp only [eq_self, true_and, and_true, decide_eq_true_eq, decide_eq_false_iff_not, beq_iff_eq, beq_eq_false_iff_ne, ne_eq]
  rintro ⟨n, l, ⟨⟩⟩
  simp only [maxLen_eq, d3]
  intro hl
  refine ⟨fun z => ∃ k : Nat, k ≤ l.length ∧ z.2.1 = (k : Int) ∧ z.1 = ((l.take k).count n : Int), fun z => l.length - z.2.1.toNat, ⟨0, Nat.zero_le _, rfl, rfl⟩, ?_⟩
  rintro c i ⟨k, hk, hi, hc⟩
  simp only at hi hc
  subst hi
  have hcl : (l.take k).count n ≤ k := Nat.le_trans List.count_le_length (by simp; omega)
  refine ⟨fun h => ⟨⟨by omega, h⟩, ?_⟩, fun h => ?_⟩
  · have hlt : k < l.length := by omega
    have hw : IntKind.i64.wrap ((k : Int) + 1) = ((k + 1 : Nat) : Int) := wrap_succ (by omega)
    have ht := take_one (0 : Int) hlt
    rw [toNat_cast, hw]
    have hwc : IntKind.i64.wrap (c + 1) = c + 1 := wrap_id (by omega) (by omega)
    refine ⟨fun e => ⟨⟨k + 1, hlt, rfl, ?_⟩, by simp only [toNat_cast]; omega⟩, fun e => ⟨⟨k + 1, hlt, rfl, ?_⟩, by simp only [toNat_cast]; omega⟩⟩
    · rw [hwc, hc, ht, List.count_append, e]
      simp
    · rw [hc, ht, List.count_append]
      simp only [List.count_singleton, beq_iff_eq]
      rw [if_neg e]
      simp
  · have hke : k = l.length := by omega
    rw [hc, hke, List.take_length]
    rfl
theorem beqB (a b : ByteArray) : (a == b) = true ↔ a = b := by
  cases a with
  | mk d =>
    cases b with
    | mk e =>
      show (d == e) = true ↔ _
      simp
theorem beqI (a b : Inl) : Ty.beq t48 a b = true ↔ a = b := by
  obtain ⟨a1, a2, a3, a4, a5, ⟨⟩⟩ := a
  obtain ⟨b1, b2, b3, b4, b5, ⟨⟩⟩ := b
  show (a1 == b1 && (a2 == b2 && (a3 == b3 && (a4 == b4 && (a5 == b5 && true))))) = true ↔ _
  simp [beqB]
theorem beqI_f (a b : Inl) : Ty.beq t48 a b = false ↔ a ≠ b := by
  cases h : Ty.beq t48 a b with
  | true => simp [(beqI a b).1 h]
  | false =>
    refine ⟨fun _ e => ?_, fun _ => rfl⟩
    rw [(beqI a b).2 e] at h
    cases h
theorem take_snoc' {l : List Inl} {k : Nat} (h : k < l.length) : l.take (k + 1) = l.take k ++ [l.getD k zI] := by
  rw [List.take_succ_eq_append_getElem h, getD_of zI h]
theorem beq4 (a b : Bool) : Ty.beq t4 a b = (a == b) := rfl
theorem inI_t {f t : Int} {x : Inl} : inI f t x = true ↔ f ≤ x.2.1 ∧ x.2.1 ≤ t := by simp [inI]
theorem inI_f {f t : Int} {x : Inl} : inI f t x = false ↔ ¬ (f ≤ x.2.1 ∧ x.2.1 ≤ t) := by
  cases h : inI f t x with
  | true => have := inI_t.1 h; simp; omega
  | false =>
    refine ⟨fun _ h2 => ?_, fun _ => rfl⟩
    rw [inI_t.2 h2] at h
    cases h
end Go.Fr.Z14
namespace Go.Fr.Z14
open Go Go.Fr Go.Proofs
theorem p60 : vc60 := by
  unfold vc60
  simp only [eq_self, decide_eq_true_eq, decide_eq_false_iff_not, bne_iff_ne, bne_eq_false_iff_eq, ne_eq]
  rintro ⟨a, b, ⟨⟩⟩
  simp only [not_true, false_imp_iff, true_and, true_imp_iff]
  unfold cmpI
  refine ⟨fun h => by rw [if_pos h], fun h => ⟨fun h2 => by rw [if_neg h, if_pos h2], fun h2 => by rw [if_neg h, if_neg h2]⟩⟩
theorem firstNZ_drop {l : List Int} {k : Nat} (h : ∀ j, j < k → l.getD j 0 = 0) (hk : k ≤ l.length) : firstNZ l = firstNZ (l.drop k) := by
  induction k with
  | zero => rfl
  | succ k ih =>
    rw [ih (fun j hj => h j (by omega)) (by omega), drop_cons 0 (show k < l.length by omega)]
    show (if l.getD k 0 = 0 then firstNZ (l.drop (k + 1)) else l.getD k 0) = _
    rw [if_pos (h k (by omega))]
theorem p59 : vc59 := by
  unfold vc59
  simp only [eq_self, true_and, and_true, decide_eq_true_eq, decide_eq_false_iff_not, bne_iff_ne, bne_eq_false_iff_eq, ne_eq]
  rintro ⟨l, ⟨⟩⟩
  simp only [maxLen_eq, d3]
  intro hl
  refine ⟨fun z => ∃ k : Nat, k ≤ l.length ∧ z.1 = (k : Int) ∧ ∀ j, j < k → l.getD j 0 = 0, fun z => l.length - z.1.toNat, ⟨0, Nat.zero_le _, rfl, fun j hj => by omega⟩, ?_⟩
  rintro a ⟨k, hk, rfl, hz⟩
  simp only [toNat_cast]
  refine ⟨fun h1 => ⟨by omega, fun h2 => ?_, fun h2 => ?_⟩, fun h1 => ?_⟩
  · rw [firstNZ_drop hz hk, drop_cons 0 (show k < l.length by omega)]
    simp only [firstNZ]
    rw [if_neg h2]
  · have hw : IntKind.i64.wrap ((k : Int) + 1) = ((k + 1 : Nat) : Int) := wrap_succ (by omega)
    rw [hw, toNat_cast]
    refine ⟨⟨k + 1, by omega, rfl, fun j hj => ?_⟩, by omega⟩
    by_cases e : j = k
    · subst e; exact h2
    · exact hz j (by omega)
  · rw [firstNZ_drop hz hk, show k = l.length by omega, List.drop_length]
    rfl
theorem p24 : vc24 := by
  unfold vc24
  intro x _
  refine ⟨trivial, trivial, trivial, by simp [maxLen_eq], rfl⟩
theorem p46 : vc46 := by
  unfold vc46
  try simp only [eq_self, true_and, and_true, decide_eq_true_eq, decide_eq_false_iff_not, beq_iff_eq, beq_eq_false_iff_ne, bne_iff_ne, bne_eq_false_iff_eq, Bool.not_eq_true', Bool.not_eq_false', ne_eq, imp_true_iff, implies_true]
  rintro ⟨l, ⟨⟩⟩
  simp only [maxLen_eq]
  intro h c hc
  refine ⟨fun h1 => ?_, fun h1 => ⟨by omega, by omega, by simp⟩⟩
  exact (List.eq_nil_of_length_eq_zero (hc h1)).symm
theorem pO46 : vcO46 := by
  unfold vcO46
  try simp only [eq_self, true_and, and_true, decide_eq_true_eq, decide_eq_false_iff_not, beq_iff_eq, beq_eq_false_iff_ne, bne_iff_ne, bne_eq_false_iff_eq, Bool.not_eq_true', Bool.not_eq_false', ne_eq, imp_true_iff, implies_true]
  rintro ⟨l, ⟨⟩⟩
  simp only [maxLen_eq]
  intro h c hc
  refine ⟨fun h1 => ?_, fun h1 => ⟨by omega, by omega, by simp⟩⟩
  exact (List.eq_nil_of_length_eq_zero (hc h1)).symm
theorem p15 : vc15 := by
  unfold vc15
  try simp only [eq_self, true_and, and_true, decide_eq_true_eq, decide_eq_false_iff_not, beq_iff_eq, beq_eq_false_iff_ne, bne_iff_ne, bne_eq_false_iff_eq, Bool.not_eq_true', Bool.not_eq_false', ne_eq, imp_true_iff, implies_true]
  rintro ⟨s, ⟨⟩⟩
  simp only
  intro h
  cases s with
  | none => exact ⟨fun _ => rfl, fun h => by cases h⟩
  | some s => exact ⟨fun h => (by cases h), fun _ => ⟨rfl, h, rfl⟩⟩
theorem pO15 : vcO15 := by
  unfold vcO15
  try simp only [eq_self, true_and, and_true, decide_eq_true_eq, decide_eq_false_iff_not, beq_iff_eq, beq_eq_false_iff_ne, bne_iff_ne, bne_eq_false_iff_eq, Bool.not_eq_true', Bool.not_eq_false', ne_eq, imp_true_iff, implies_true]
  rintro ⟨s, ⟨⟩⟩
  simp only
  intro h
  cases s with
  | none => exact ⟨fun _ => rfl, fun h => by cases h⟩
  | some s => exact ⟨fun h => (by cases h), fun _ => ⟨rfl, h, rfl⟩⟩
theorem p31 : vc31 := by
  unfold vc31
  try simp only [eq_self, true_and, and_true, decide_eq_true_eq, decide_eq_false_iff_not, beq_iff_eq, beq_eq_false_iff_ne, bne_iff_ne, bne_eq_false_iff_eq, Bool.not_eq_true', Bool.not_eq_false', ne_eq, imp_true_iff, implies_true]
  rintro ⟨s, ⟨⟩⟩ -
  simp only
  cases s with
  | none => exact ⟨fun _ => rfl, fun h => by cases h⟩
  | some s => exact ⟨fun h => (by cases h), fun _ => ⟨rfl, rfl⟩⟩
theorem err_bad {n : Int} {seen : List Inl} {x : Inl} {r : List Inl} (h : wrongW n seen x ≠ 0) : errI n seen (x :: r) = wrongW n seen x := by
  show (if wrongW n seen x ≠ 0 then wrongW n seen x else errI n (seen ++ [x]) r) = _
  rw [if_pos h]
theorem err_on {n : Int} {seen : List Inl} {x : Inl} {r : List Inl} (h : wrongW n seen x = 0) : errI n seen (x :: r) = errI n (seen ++ [x]) r := by
  show (if wrongW n seen x ≠ 0 then wrongW n seen x else errI n (seen ++ [x]) r) = _
  rw [if_neg (by rw [h]; decide)]
theorem wrong_err {n : Int} {l : List Inl} {e : Int} (h0 : ¬ n < 0) (h1 : ¬ n > 1099511627776) (h2 : ¬ (l.length : Int) > 60) (he : errI n [] l = e) : e = wrongN n l := by
  unfold wrongN
  rw [if_neg (by omega), if_neg h2, he]
theorem new_err {n : Int} {l : List Inl} {e : Int} (he : e = wrongN n l) (hne : e ≠ 0) : (none, e, ()) = newI n l := by
  unfold newI
  rw [← he, if_neg hne]
theorem newW_err {n : Int} {l : List Inl} {e : Int} (he : e = wrongN n l) (hne : e ≠ 0) : (0, [], e, ()) = newW n l := by
  unfold newW
  rw [← he, if_neg hne]
theorem wrong_n {n : Int} {l : List Inl} (h : n < 0 ∨ n > 1099511627776) : (1 : Int) = wrongN n l := by
  unfold wrongN
  rw [if_pos h]
theorem wrong_5 {n : Int} {l : List Inl} (h0 : ¬ n < 0) (h1 : ¬ n > 1099511627776) (h2 : (l.length : Int) > 60) : (5 : Int) = wrongN n l := by
  unfold wrongN
  rw [if_neg (by omega), if_pos h2]
theorem errI_ids {n : Int} : (seen l : List Inl) → errI n seen l = 0 → (∀ x ∈ l, wrongI n x = 0 ∧ hasId x.1 seen = false) ∧ l.Pairwise (fun a b => a.1 ≠ b.1)
  | _, [], _ => ⟨fun x hx => (by cases hx), List.Pairwise.nil⟩
  | seen, x :: r, h => by
    by_cases hw : wrongW n seen x = 0
    · rw [err_on hw] at h
      have h1 : wrongI n x = 0 := by
        unfold wrongW at hw
        by_cases g : wrongI n x = 0
        · exact g
        · rw [if_pos g] at hw; exact hw
      have h2 : hasId x.1 seen = false := by
        unfold wrongW at hw
        rw [if_neg (by rw [h1]; decide)] at hw
        cases hc : hasId x.1 seen with
        | false => rfl
        | true => rw [hc, if_pos rfl] at hw; cases hw
      obtain ⟨g1, g2⟩ := errI_ids (seen ++ [x]) r h
      have part : ∀ y ∈ r, hasId y.1 seen = false ∧ x.1 ≠ y.1 := fun y hy => by
        have := (g1 y hy).2
        simp [hasId] at this
        refine ⟨?_, this.2⟩
        simp [hasId]
        exact this.1
      refine ⟨fun y hy => ?_, List.pairwise_cons.2 ⟨fun y hy => (part y hy).2, g2⟩⟩
      rcases List.mem_cons.1 hy with e | hy
      · subst e; exact ⟨h1, h2⟩
      · exact ⟨(g1 y hy).1, (part y hy).1⟩
    · rw [err_bad hw] at h
      exact absurd h hw
theorem ids_one {l : List Inl} (h : l.Pairwise (fun a b => a.1 ≠ b.1)) {x y : Inl} (hx : x ∈ l) (hy : y ∈ l) (e : x.1 = y.1) : x = y := by
  obtain ⟨i, hi, h1⟩ := List.getElem_of_mem hx
  obtain ⟨j, hj, h2⟩ := List.getElem_of_mem hy
  rcases Nat.lt_trichotomy i j with g | g | g
  · have := List.pairwise_iff_getElem.1 h i j hi hj g
    rw [h1, h2] at this
    exact absurd e this
  · subst g; rw [← h1, ← h2]
  · have := List.pairwise_iff_getElem.1 h j i hj hi g
    rw [h1, h2] at this
    exact absurd e.symm this
theorem one_way {l ys : List Inl} (h : l.Pairwise (fun a b => a.1 ≠ b.1)) (hp : ys.Perm l) (hs : ys.Pairwise (fun a b => ¬ cmpL b a < 0)) : ys = sortI l :=
  sort_one_way swoL (fun x hx y hy h1 h2 => ids_one h hx hy (alikeL h1 h2)) hp hs
theorem clean_ids {l : List Inl} (h : l.Pairwise (fun a b => a.1 ≠ b.1)) : (l.map cleanI).Pairwise (fun a b => a.1 ≠ b.1) := by
  rw [List.pairwise_map]
  exact h
def keysU (l : List Inl) : List (Int × Unit × Unit) := l.map fun x => (x.1, (), ())
theorem mget_keysU (i : Int) : (l : List Inl) → (mget t3 t67 i (keysU l) = none ↔ hasId i l = false) ∧ (Option.isSome (mget t3 t67 i (keysU l)) = true ↔ hasId i l = true)
  | [] => by simp [keysU, mget, hasId]
  | x :: r => by
    have ih := mget_keysU i r
    have e : mget t3 t67 i (keysU (x :: r)) = bif Ty.beq t3 i x.1 then some () else mget t3 t67 i (keysU r) := rfl
    rw [e]
    by_cases h : i = x.1
    · rw [show Ty.beq t3 i x.1 = true from by simp [Ty.beq, h]]
      simp [hasId, h]
    · rw [show Ty.beq t3 i x.1 = false from by simp [Ty.beq, h]]
      have hx : ¬ x.1 = i := fun hh => h hh.symm
      simp only [cond_false, hasId, List.any_cons, hx, decide_false, Bool.false_or]
      exact ih
theorem keysU_snoc {l : List Inl} {k : Nat} (h : k < l.length) : keysU (l.take (k + 1)) = keysU (l.take k) ++ [((l.getD k zI).1, (), ())] := by
  rw [take_snoc' h]
  simp [keysU]
theorem clean_snoc {l : List Inl} {k : Nat} (h : k < l.length) : (l.take (k + 1)).map cleanI = (l.take k).map cleanI ++ [((l.getD k zI).1, (l.getD k zI).2.1, (l.getD k zI).2.2.1, (l.getD k zI).2.2.2.1, clean (txt (l.getD k zI)), ())] := by
  rw [take_snoc' h, List.map_append]
  rfl
theorem p7 : vc7 := by
  unfold vc7
  simp only [eq_self, true_and, and_true, decide_eq_true_eq, decide_eq_false_iff_not, bne_iff_ne, bne_eq_false_iff_eq, ne_eq]
  rintro ⟨n, l, ⟨⟩⟩
  simp only [maxLen_eq, d48]
  rintro ⟨hlm, hsh⟩
  have w1 : (n < 0 ∨ n > 1099511627776) → (none, (1 : Int), ()) = newI n l := fun h => new_err (wrong_n h) (by decide)
  refine ⟨fun h0 => w1 (.inl h0), fun h0 => ⟨fun h1 => w1 (.inr h1), fun h1 => ⟨fun h2 => new_err (wrong_5 h0 h1 h2) (by decide), fun h2 => ?_⟩⟩⟩
  refine ⟨fun z => ∃ k : Nat, k ≤ l.length ∧ z.1 = (k : Int) ∧ z.2.1 = keysU (l.take k) ∧ z.2.2.1 = (l.take k).map cleanI ∧ errI n [] l = errI n (l.take k) (l.drop k), fun z => l.length - z.1.toNat, ⟨0, Nat.zero_le _, rfl, rfl, rfl, rfl⟩, ?_⟩
  rintro i m o ⟨k, hk, hi, hm, ho, he⟩
  simp only at hi hm ho
  subst hi hm
  have hol : o.length = k := by rw [ho]; simp; omega
  refine ⟨fun h3 => ?_, fun h3 => ?_⟩
  · have hk' : k < l.length := by omega
    have hd := drop_cons zI hk'
    have htk := take_snoc' hk'
    have hks := keysU_snoc hk'
    have hcs := clean_snoc hk'
    have hsx := hsh _ (List.getElem_mem hk')
    rw [← getD_of zI hk'] at hsx
    rw [hd] at he
    rw [toNat_cast]
    generalize hx : l.getD k zI = x at he htk hks hcs hsx ⊢
    have hwk : IntKind.i64.wrap ((k : Int) + 1) = ((k + 1 : Nat) : Int) := wrap_succ (by omega)
    obtain ⟨g1, g2⟩ := mget_keysU x.1 (l.take k)
    have et : x.2.2.2.2.1 = txt x := rfl
    rw [hwk, et]
    simp only [List.length_singleton, toNat_cast]
    have bad : ¬ wrongI n x = 0 → (none, wrongI n x, ()) = newI n l := fun h => by
      have e : wrongW n (l.take k) x = wrongI n x := (ww_1 rfl h).symm
      exact new_err (wrong_err h0 h1 h2 (he.trans ((err_bad (by rw [e]; exact h)).trans e))) h
    have same : wrongI n x = 0 → Option.isSome (mget t3 t67 x.1 (keysU (l.take k))) = true → (none, (8 : Int), ()) = newI n l := fun h hs => by
      have e : wrongW n (l.take k) x = 8 := (ww_8 h.symm (g2.1 hs)).symm
      exact new_err (wrong_err h0 h1 h2 (he.trans ((err_bad (by rw [e]; decide)).trans e))) (by decide)
    refine ⟨⟨by omega, h3⟩, by omega, bad, fun h4 => ⟨same h4, fun h5 => ?_⟩⟩
    have hno : hasId x.1 (l.take k) = false := by
      cases hc : hasId x.1 (l.take k) with
      | false => rfl
      | true => rw [g2.2 hc] at h5; cases h5
    have Zf : ∃ k' : Nat, k' ≤ l.length ∧ ((k + 1 : Nat) : Int) = (k' : Int) ∧ keysU (l.take k) ++ [(x.1, (), ())] = keysU (l.take k') ∧ o ++ [(x.1, x.2.1, x.2.2.1, x.2.2.2.1, clean (txt x), ())] = (l.take k').map cleanI ∧ errI n [] l = errI n (l.take k') (l.drop k') :=
      ⟨k + 1, hk', rfl, hks.symm, by rw [hcs, ho], by rw [he, err_on (ww_0 h4.symm hno).symm, htk]⟩
    have f1 : (o.length + 1) * 48 ≤ 140737488355328 := by omega
    have f2 : o.length + 1 ≤ 9223372036854775807 := by omega
    have f3 : l.length - (k + 1) < l.length - k := by omega
    exact ⟨g1.2 hno, by omega, ⟨f1, f2, Zf, f3⟩, ⟨f1, f2, Zf, f3⟩, f1, f2, Zf, f3⟩
  · have hke : k = l.length := by omega
    subst hke
    rw [List.take_length, List.drop_length] at he
    rw [List.take_length] at ho
    have he : errI n [] l = 0 := he
    refine ⟨by omega, ?_⟩
    rintro ys ⟨hp, hs⟩
    have hw : wrongN n l = 0 := (wrong_err h0 h1 h2 he).symm
    unfold newI
    rw [ho] at hp
    rw [if_pos hw, ← one_way (clean_ids (errI_ids [] l he).2) hp hs]
theorem insI1_lt {x y : Inl} {r : List Inl} (h : aheadI x y = true) : insI1 x (y :: r) = x :: y :: r := by
  unfold insI1
  rw [if_pos h]
theorem insI1_ge {x y : Inl} {r : List Inl} (h : aheadI x y = false) : insI1 x (y :: r) = y :: insI1 x r := by
  conv => lhs; unfold insI1
  rw [if_neg (by rw [h]; decide)]
theorem insI1_by (x : Inl) : (l : List Inl) → insI1 x l = insBy cmpL x l
  | [] => rfl
  | y :: r => by
    have e : insBy cmpL x (y :: r) = if cmpL x y < 0 then x :: y :: r else y :: insBy cmpL x r := rfl
    rw [e, ← insI1_by x r]
    by_cases h : cmpL x y < 0
    · rw [if_pos h, insI1_lt (ahead_lt.2 h)]
    · rw [if_neg h, insI1_ge (by cases hc : aheadI x y with | false => rfl | true => exact absurd (ahead_lt.1 hc) h)]
theorem insI_by (l : List Inl) : insI l = l.foldl (fun o x => insBy cmpL x o) [] := by
  unfold insI
  congr 1
  funext o x
  exact insI1_by x o
theorem insI1_len (x : Inl) (l : List Inl) : (insI1 x l).length = l.length + 1 := by
  rw [insI1_by]
  have := (insBy_perm (cf := cmpL) x l).length_eq
  simpa using this
theorem insI_perm (l : List Inl) : (insI l).Perm l ∧ (insI l).Pairwise (fun a b => ¬ cmpL b a < 0) := by
  rw [insI_by]
  have := ins_all swoL l [] List.Pairwise.nil
  simpa using this
theorem insI_len (l : List Inl) : (insI l).length = l.length := (insI_perm l).1.length_eq
theorem insI_sort {l : List Inl} (h : l.Pairwise (fun a b => a.1 ≠ b.1)) : insI l = sortI l := one_way h (insI_perm l).1 (insI_perm l).2
theorem insI_snoc {l : List Inl} {k : Nat} (h : k < l.length) : insI ((l.take (k + 1)).map cleanI) = insI1 (cleanI (l.getD k zI)) (insI ((l.take k).map cleanI)) := by
  rw [take_snoc' h, List.map_append]
  simp [insI]
theorem p8 : vc8 := by
  unfold vc8
  simp only [eq_self, true_and, and_true, decide_eq_true_eq, decide_eq_false_iff_not, bne_iff_ne, bne_eq_false_iff_eq, Bool.not_eq_true', Bool.not_eq_false', ne_eq]
  rintro ⟨n, l, ⟨⟩⟩
  simp only [maxLen_eq, d48]
  rintro ⟨hlm, hsh⟩
  have w1 : (n < 0 ∨ n > 1099511627776) → ((0 : Int), [], (1 : Int), ()) = newW n l := fun h => newW_err (wrong_n h) (by decide)
  refine ⟨fun h0 => w1 (.inl h0), fun h0 => ⟨fun h1 => w1 (.inr h1), fun h1 => ⟨fun h2 => newW_err (wrong_5 h0 h1 h2) (by decide), fun h2 => ?_⟩⟩⟩
  refine ⟨fun z => ∃ k : Nat, k ≤ l.length ∧ z.2.1 = (k : Int) ∧ z.1 = insI ((l.take k).map cleanI) ∧ errI n [] l = errI n (l.take k) (l.drop k), fun z => l.length - z.2.1.toNat, ⟨0, Nat.zero_le _, rfl, rfl, rfl⟩, ?_⟩
  rintro out i ⟨j, hk, hi, ho, he⟩
  simp only at hi ho
  subst hi
  refine ⟨fun h3 => ?_, fun h3 => ?_⟩
  · have hk' : j < l.length := by omega
    have hd := drop_cons zI hk'
    have htk := take_snoc' hk'
    have hlt : (l.take j).length = j := by simp; omega
    have hol : out.length = j := by rw [ho, insI_len, List.length_map, hlt]
    have hlast := insI_snoc hk'
    rw [← ho] at hlast
    have hsx := hsh _ (List.getElem_mem hk')
    rw [← getD_of zI hk'] at hsx
    rw [hd] at he
    have hwk : IntKind.i64.wrap ((j : Int) + 1) = ((j + 1 : Nat) : Int) := wrap_succ (by omega)
    rw [toNat_cast, hol, hlt, hwk]
    generalize l.getD j zI = x at he htk hlast hsx ⊢
    have dl := decL_len (txt x)
    have ec : ((x.1, x.2.1, x.2.2.1, x.2.2.2.1, encode (decodeL x.2.2.2.2.1), ()) : Inl) = cleanI x := rfl
    have et : x.2.2.2.2.1 = txt x := rfl
    rw [ec, et]
    refine ⟨⟨by omega, h3⟩, ⟨by omega, by omega⟩, ⟨by omega, by omega⟩, fun h4 => ?_, fun h4 => ⟨by omega, by omega, ?_⟩⟩
    · exact newW_err (wrong_err h0 h1 h2 (he.trans (err_bad h4))) h4
    have he2 : errI n [] l = errI n (l.take (j + 1)) (l.drop (j + 1)) := by rw [he, err_on h4, htk]
    generalize cleanI x = x at hlast ⊢
    have fin : ∀ o : List Inl, o = insI1 x out → (∃ k' : Nat, k' ≤ l.length ∧ ((j + 1 : Nat) : Int) = (k' : Int) ∧ o = insI ((l.take k').map cleanI) ∧ errI n [] l = errI n (l.take k') (l.drop k')) ∧ l.length - (((j + 1 : Nat) : Int)).toNat < l.length - ((j : Int)).toNat :=
      fun o hoo => ⟨⟨j + 1, hk', rfl, by rw [hlast, hoo], he2⟩, by rw [toNat_cast, toNat_cast]; omega⟩
    refine ⟨fun z => ∃ m : Nat, m ≤ j ∧ z.2.2.1 = (m : Int) ∧ z.1.length ≤ j + 1 ∧ (z.2.1 = true → z.1 ++ out.drop m = insI1 x out) ∧ (z.2.1 = false → z.1 = out.take m ∧ insI1 x out = out.take m ++ insI1 x (out.drop m)), fun z => j - z.2.2.1.toNat,
      ⟨0, Nat.zero_le _, rfl, Nat.zero_le _, fun h => (by cases h), fun _ => ⟨rfl, rfl⟩⟩, ?_⟩
    rintro nx put i ⟨m, hm, hi, hnl, ht, hf⟩
    simp only at hi hnl ht hf
    subst hi
    refine ⟨fun h8 => ?_, fun h8 => ?_⟩
    · have hm' : m < out.length := by omega
      have hdm := drop_cons zI hm'
      have htm := take_snoc' (l := out) hm'
      rw [toNat_cast]
      generalize hy : out.getD m zI = y at hdm htm ⊢
      have hwm : IntKind.i64.wrap ((m : Int) + 1) = ((m + 1 : Nat) : Int) := wrap_succ (by omega)
      rw [hwm]
      have nlen : put = false → nx.length = m := fun h => by rw [(hf h).1]; simp; omega
      have tlen : put = true → nx.length = m + 1 := fun h => by
        have := congrArg List.length (ht h)
        rw [insI1_len, List.length_append, List.length_drop] at this
        omega
      have goPut : put = false → aheadI x y = true → (∃ m' : Nat, m' ≤ j ∧ ((m + 1 : Nat) : Int) = (m' : Int) ∧ (nx ++ [x] ++ [y]).length ≤ j + 1 ∧ (True → nx ++ [x] ++ [y] ++ out.drop m' = insI1 x out) ∧ (true = false → nx ++ [x] ++ [y] = out.take m' ∧ insI1 x out = out.take m' ++ insI1 x (out.drop m'))) ∧ j - (((m + 1 : Nat) : Int)).toNat < j - ((m : Int)).toNat := by
        intro hp hl
        obtain ⟨q1, q2⟩ := hf hp
        refine ⟨⟨m + 1, by omega, rfl, by have := nlen hp; simp; omega, fun _ => ?_, fun h => by cases h⟩, by rw [toNat_cast, toNat_cast]; omega⟩
        rw [q2, hdm, insI1_lt hl, q1]
        simp
      have goOn : put = false → aheadI x y = false → (∃ m' : Nat, m' ≤ j ∧ ((m + 1 : Nat) : Int) = (m' : Int) ∧ (nx ++ [y]).length ≤ j + 1 ∧ (put = true → nx ++ [y] ++ out.drop m' = insI1 x out) ∧ (put = false → nx ++ [y] = out.take m' ∧ insI1 x out = out.take m' ++ insI1 x (out.drop m'))) ∧ j - (((m + 1 : Nat) : Int)).toNat < j - ((m : Int)).toNat := by
        intro hp hl
        obtain ⟨q1, q2⟩ := hf hp
        refine ⟨⟨m + 1, by omega, rfl, by have := nlen hp; simp; omega, fun h => (by rw [hp] at h; cases h), fun _ => ⟨by rw [htm, q1], ?_⟩⟩, by rw [toNat_cast, toNat_cast]; omega⟩
        rw [q2, hdm, insI1_ge hl, htm]
        simp
      have goTail : put = true → (∃ m' : Nat, m' ≤ j ∧ ((m + 1 : Nat) : Int) = (m' : Int) ∧ (nx ++ [y]).length ≤ j + 1 ∧ (put = true → nx ++ [y] ++ out.drop m' = insI1 x out) ∧ (put = false → nx ++ [y] = out.take m' ∧ insI1 x out = out.take m' ++ insI1 x (out.drop m'))) ∧ j - (((m + 1 : Nat) : Int)).toNat < j - ((m : Int)).toNat := by
        intro hp
        refine ⟨⟨m + 1, by omega, rfl, by have := tlen hp; simp; omega, fun _ => ?_, fun h => (by rw [hp] at h; cases h)⟩, by rw [toNat_cast, toNat_cast]; omega⟩
        rw [← ht hp, hdm]
        simp
      simp only [List.length_append, List.length_cons, List.length_nil]
      simp only [List.length_append, List.length_cons, List.length_nil] at goPut goOn goTail
      refine ⟨⟨by omega, h8⟩, fun h9 => ⟨fun h10 => ⟨by omega, by omega, by omega, by omega, goPut h9 h10⟩, fun h10 => ⟨by omega, by omega, goOn h9 h10⟩⟩, fun h9 => ⟨by omega, by omega, goTail h9⟩⟩
    · have hmj : m = out.length := by omega
      have hm2 : m = j := by omega
      subst hm2
      refine ⟨fun h9 => ?_, fun h9 => ?_⟩
      · obtain ⟨q1, q2⟩ := hf h9
        have e1 : nx ++ [x] = insI1 x out := by
          rw [q2, q1, hmj, List.drop_length]
          rfl
        refine ⟨by simp; omega, by simp; omega, ?_⟩
        exact fin _ e1
      · have e1 : nx = insI1 x out := by
          rw [← ht h9, hmj, List.drop_length, List.append_nil]
        exact fin _ e1
  · have hke : j = l.length := by omega
    subst hke
    rw [List.take_length] at ho he
    rw [List.drop_length] at he
    have hw : wrongN n l = 0 := (wrong_err h0 h1 h2 he).symm
    unfold newW
    rw [if_pos hw, ho]
theorem p39 : vc39 := by
  unfold vc39
  simp only [eq_self, true_and, and_true, decide_eq_true_eq, decide_eq_false_iff_not, beq_iff_eq, beq_eq_false_iff_ne, Bool.not_eq_true', Bool.not_eq_false', ne_eq]
  rintro ⟨s, f, t, ⟨⟩⟩
  simp only [d48]
  intro hl
  refine ⟨hl, ?_⟩
  generalize allI s = xs at hl ⊢
  have second : ∀ (a : List Inl) (i j : Int), (∃ i' j' : Nat, i = (i' : Int) ∧ j = (j' : Int) ∧ DelI (inI f t) zI xs a i' j') →
      (j < (a.length : Int) → (0 ≤ j ∧ j < (a.length : Int)) ∧
        (inI f t (a.getD j.toNat zI) = true → (0 ≤ i ∧ i < (a.length : Int)) ∧ (∃ i' j' : Nat, IntKind.i64.wrap (i + 1) = (i' : Int) ∧ IntKind.i64.wrap (j + 1) = (j' : Int) ∧ DelI (inI f t) zI xs (a.set i.toNat (a.getD j.toNat zI)) i' j') ∧ xs.length - (IntKind.i64.wrap (j + 1)).toNat < xs.length - j.toNat) ∧
        (inI f t (a.getD j.toNat zI) = false → (∃ i' j' : Nat, i = (i' : Int) ∧ IntKind.i64.wrap (j + 1) = (j' : Int) ∧ DelI (inI f t) zI xs a i' j') ∧ xs.length - (IntKind.i64.wrap (j + 1)).toNat < xs.length - j.toNat)) ∧
      (¬ j < (a.length : Int) → (0 ≤ i ∧ i < (a.length : Int)) ∧ (0 ≤ i ∧ i ≤ ((a.take i.toNat ++ List.replicate (a.length - i.toNat) zI).length : Int)) ∧ (a.take i.toNat ++ List.replicate (a.length - i.toNat) zI).take i.toNat = xs.filter (inI f t)) := by
    rintro a i j ⟨i', j', rfl, rfl, hd⟩
    have hd' := hd
    obtain ⟨h1, h2, h3, h4, h5⟩ := hd'
    refine ⟨fun h => ?_, fun h => ?_⟩
    · have hw : IntKind.i64.wrap ((j' : Int) + 1) = ((j' + 1 : Nat) : Int) := wrap_succ (by omega)
      have hw2 : IntKind.i64.wrap ((i' : Int) + 1) = ((i' + 1 : Nat) : Int) := wrap_succ (by omega)
      rw [toNat_cast, toNat_cast, hw, hw2]
      have hlt : j' < xs.length := by omega
      refine ⟨⟨by omega, h⟩, fun g => ⟨⟨by omega, by omega⟩, ⟨i' + 1, j' + 1, rfl, rfl, hd.keep hlt g⟩, by rw [toNat_cast]; omega⟩, fun g => ⟨⟨i', j' + 1, rfl, rfl, hd.drop hlt g⟩, by rw [toNat_cast]; omega⟩⟩
    · have hj : j' = xs.length := by omega
      subst hj
      rw [toNat_cast, List.length_append, List.length_take, List.length_replicate]
      exact ⟨⟨by omega, by omega⟩, ⟨by omega, by omega⟩, hd.last zI⟩
  refine ⟨fun z => ∃ k : Nat, k ≤ xs.length ∧ z.1 = (k : Int) ∧ ∀ j, j < k → inI f t (xs.getD j zI) = true, fun z => xs.length - z.1.toNat, ⟨0, Nat.zero_le _, rfl, fun j hj => by omega⟩, ?_⟩
  rintro i ⟨k, hk, hi, hs⟩
  simp only at hi
  subst hi
  refine ⟨fun h => ?_, fun h => ?_⟩
  · have hlt : k < xs.length := by omega
    have hw : IntKind.i64.wrap ((k : Int) + 1) = ((k + 1 : Nat) : Int) := wrap_succ (by omega)
    rw [toNat_cast, hw]
    have next : inI f t (xs.getD k zI) = true → (∃ k' : Nat, k' ≤ xs.length ∧ ((k + 1 : Nat) : Int) = (k' : Int) ∧ ∀ j, j < k' → inI f t (xs.getD j zI) = true) ∧ xs.length - (((k + 1 : Nat) : Int)).toNat < xs.length - (k : Int).toNat := fun g =>
      ⟨⟨k + 1, hlt, rfl, fun j hj => by
        by_cases e : j = k
        · subst e; exact g
        · exact hs j (by omega)⟩, by rw [toNat_cast, toNat_cast]; omega⟩
    have out : inI f t (xs.getD k zI) = false → ∃ (Z : List Inl × Int × Int × Unit → Prop), ∃ (μ : List Inl × Int × Int × Unit → Nat), Z (xs, (k : Int), ((k + 1 : Nat) : Int), ()) ∧ ∀ (a : List Inl) (i j : Int), Z (a, i, j, ()) →
        (j < (a.length : Int) → (0 ≤ j ∧ j < (a.length : Int)) ∧
          ((a.getD j.toNat zI).2.1 < f → (True → Z (a, i, IntKind.i64.wrap (j + 1), ()) ∧ μ (a, i, IntKind.i64.wrap (j + 1), ()) < μ (a, i, j, ()))) ∧
          (¬ (a.getD j.toNat zI).2.1 < f → (¬ (a.getD j.toNat zI).2.1 > t → (0 ≤ i ∧ i < (a.length : Int)) ∧ Z (a.set i.toNat (a.getD j.toNat zI), IntKind.i64.wrap (i + 1), IntKind.i64.wrap (j + 1), ()) ∧ μ (a.set i.toNat (a.getD j.toNat zI), IntKind.i64.wrap (i + 1), IntKind.i64.wrap (j + 1), ()) < μ (a, i, j, ())) ∧
            ((a.getD j.toNat zI).2.1 > t → Z (a, i, IntKind.i64.wrap (j + 1), ()) ∧ μ (a, i, IntKind.i64.wrap (j + 1), ()) < μ (a, i, j, ())))) ∧
        (¬ j < (a.length : Int) → (0 ≤ i ∧ i < (a.length : Int)) ∧ (0 ≤ i ∧ i ≤ ((a.take i.toNat ++ List.replicate (a.length - i.toNat) zI).length : Int)) ∧ (a.take i.toNat ++ List.replicate (a.length - i.toNat) zI).take i.toNat = xs.filter (inI f t)) := fun g => by
      refine ⟨fun z => ∃ i' j' : Nat, z.2.1 = (i' : Int) ∧ z.2.2.1 = (j' : Int) ∧ DelI (inI f t) zI xs z.1 i' j', fun z => xs.length - z.2.2.1.toNat, ⟨k, k + 1, rfl, rfl, DelI.init hlt hs g⟩, fun a i j hz => ?_⟩
      obtain ⟨s1, s2⟩ := second a i j hz
      refine ⟨fun h => ?_, s2⟩
      obtain ⟨q1, q2, q3⟩ := s1 h
      exact ⟨q1, fun g1 => fun _ => q3 (inI_f.2 (by omega)), fun g1 => ⟨fun g2 => q2 (inI_t.2 (by omega)), fun g2 => q3 (inI_f.2 (by omega))⟩⟩
    refine ⟨⟨by omega, h⟩, fun g1 => ⟨fun g2 => by omega, fun _ => ?_⟩, fun g1 => ⟨fun g2 => ⟨fun g3 => by omega, fun _ => ?_⟩, fun g2 => next (inI_t.2 (by omega))⟩⟩
    · obtain ⟨Z, μ, z0, hz⟩ := out (inI_f.2 (by omega))
      refine ⟨Z, μ, z0, fun a i j hZ => ?_⟩
      obtain ⟨s1, s2⟩ := hz a i j hZ
      exact ⟨fun h => ⟨(s1 h).1, fun g => ⟨fun hh => absurd hh (by decide), (s1 h).2.1 g⟩, (s1 h).2.2⟩, s2⟩
    · obtain ⟨Z, μ, z0, hz⟩ := out (inI_f.2 (by omega))
      refine ⟨Z, μ, z0, fun a i j hZ => ?_⟩
      obtain ⟨s1, s2⟩ := hz a i j hZ
      exact ⟨fun h => ⟨(s1 h).1, fun g => ⟨fun hh => absurd hh (by decide), (s1 h).2.1 g⟩, (s1 h).2.2⟩, s2⟩
  · have hke : k = xs.length := by omega
    subst hke
    have hfw := filter_whole (f := inI f t) (d := zI) hs
    refine ⟨fun _ => hfw.symm, fun h => absurd trivial h⟩
end Go.Fr.Z14
namespace Go.Fr.Z14
open Go Go.Fr Go.Proofs
def keysM (l : List Inl) : List (Int × Inl × Unit) := l.map fun x => (x.1, x, ())
theorem beq3 (i j : Int) : Ty.beq t3 i j = decide (i = j) := by
  by_cases h : i = j
  · subst h; simp [Ty.beq]
  · simp [Ty.beq, h]
theorem mget_keysM (i : Int) : (l : List Inl) → (mget t3 t48 i (keysM l) = none ↔ hasId i l = false) ∧ (Option.isSome (mget t3 t48 i (keysM l)) = hasId i l)
  | [] => by simp [keysM, mget, hasId]
  | x :: r => by
    have ih := mget_keysM i r
    have e : mget t3 t48 i (keysM (x :: r)) = bif Ty.beq t3 i x.1 then some x else mget t3 t48 i (keysM r) := rfl
    rw [e, beq3]
    by_cases h : i = x.1
    · rw [decide_eq_true h]
      simp [hasId, h]
    · have hx : ¬ x.1 = i := fun hh => h hh.symm
      rw [decide_eq_false h]
      simp only [cond_false, hasId, List.any_cons, hx, decide_false, Bool.false_or]
      exact ih
theorem keysM_snoc {l : List Inl} {k : Nat} (h : k < l.length) : keysM (l.take (k + 1)) = keysM (l.take k) ++ [((l.getD k zI).1, l.getD k zI, ())] := by
  rw [take_snoc' h]
  simp [keysM]
theorem mdel_keysM (i : Int) : (l : List Inl) → l.Pairwise (fun a b => a.1 ≠ b.1) → mdel t3 t48 i (keysM l) = keysM (l.filter fun x => !decide (x.1 = i))
  | [], _ => rfl
  | x :: r, h => by
    obtain ⟨h1, h2⟩ := List.pairwise_cons.1 h
    have ih := mdel_keysM i r h2
    have e : mdel t3 t48 i (keysM (x :: r)) = bif Ty.beq t3 i x.1 then keysM r else (x.1, x, ()) :: mdel t3 t48 i (keysM r) := rfl
    rw [e, beq3]
    by_cases hi : i = x.1
    · rw [decide_eq_true hi]
      have : r.filter (fun x => !decide (x.1 = i)) = r := by
        rw [List.filter_eq_self]
        intro y hy
        have := h1 y hy
        simp only [Bool.not_eq_true', decide_eq_false_iff_not]
        intro hh
        exact this (by rw [hh, hi])
      rw [List.filter_cons, if_neg (by simp [hi]), this]
      rfl
    · rw [decide_eq_false hi, List.filter_cons, if_pos (by simp; exact fun hh => hi hh.symm)]
      show (x.1, x, ()) :: mdel t3 t48 i (keysM r) = (x.1, x, ()) :: keysM (r.filter fun x => !decide (x.1 = i))
      rw [ih]
theorem hasId_ids {i : Int} {l : List Inl} : hasId i l = (l.map (·.1)).contains i := by
  rw [Bool.eq_iff_iff, hasId_iff, List.contains_iff_mem, List.mem_map]
theorem nodup_pw {l : List Inl} : ((l.map (·.1)).Nodup) ↔ l.Pairwise (fun a b => a.1 ≠ b.1) := by
  unfold List.Nodup
  rw [List.pairwise_map]
def left (l : List Inl) (rm : List Int) : List Inl := l.filter fun x => !rm.contains x.1
theorem left_snoc (l : List Inl) (rm : List Int) (i : Int) : left l (rm ++ [i]) = (left l rm).filter fun x => !decide (x.1 = i) := by
  unfold left
  rw [List.filter_filter]
  congr 1
  funext x
  rw [Bool.eq_iff_iff]
  simp
  constructor
  · rintro ⟨h1, h2⟩; exact ⟨h2, h1⟩
  · rintro ⟨h1, h2⟩; exact ⟨h2, h1⟩
theorem left_pw {l : List Inl} (h : l.Pairwise (fun a b => a.1 ≠ b.1)) (rm : List Int) : (left l rm).Pairwise (fun a b => a.1 ≠ b.1) := h.filter _
theorem erase_ids {l : List Inl} (h : l.Pairwise (fun a b => a.1 ≠ b.1)) (i : Int) : (l.map (·.1)).erase i = (l.filter fun x => !decide (x.1 = i)).map (·.1) := by
  have hn := nodup_pw.2 h
  rw [hn.erase_eq_filter]
  rw [List.filter_map]
  congr 1
theorem rm_step {l : List Inl} (h : l.Pairwise (fun a b => a.1 ≠ b.1)) {rm : List Int} {k : Nat} (hk : k < rm.length) :
    rmOk ((left l (rm.take k)).map (·.1)) (rm.drop k) = (hasId (rm.getD k 0) (left l (rm.take k)) && rmOk ((left l (rm.take (k + 1))).map (·.1)) (rm.drop (k + 1))) := by
  rw [drop_cons 0 hk]
  show (((left l (rm.take k)).map (·.1)).contains _ && rmOk (((left l (rm.take k)).map (·.1)).erase _) _) = _
  rw [← hasId_ids, erase_ids (left_pw h _), take_one 0 hk, left_snoc]
theorem left_nil (l : List Inl) : left l [] = l := by
  unfold left
  rw [List.filter_eq_self]
  intro x _
  simp
theorem short_app {a b : List Inl} (h1 : shortL a) (h2 : shortL b) : shortL (a ++ b) := fun x hx => by
  rcases List.mem_append.1 hx with h | h
  · exact h1 x h
  · exact h2 x h
theorem short_filter {a : List Inl} (h : shortL a) (f : Inl → Bool) : shortL (a.filter f) := fun x hx => h x (List.mem_filter.1 hx).1
theorem p10 : vc10 := by
  unfold vc10
  simp only [eq_self, true_and, and_true, decide_eq_true_eq, decide_eq_false_iff_not, Bool.not_eq_true', Bool.not_eq_false']
  rintro ⟨s, rm, add, ⟨⟩⟩
  simp only [maxLen_eq, d48, d3]
  rintro ⟨⟨o1, o2, o3, o4, o5⟩, hrm, hadd, hsa⟩
  have pw := nodup_pw.1 o3
  have fin : rmOk ((allI s).map (·.1)) rm = true → spliceI s rm add = newI (lenI s) (left (allI s) rm ++ add) := fun h => by
    unfold spliceI
    rw [if_pos h]
    rfl
  have bad : rmOk ((allI s).map (·.1)) rm = false → (none, (6 : Int), ()) = spliceI s rm add := fun h => by
    unfold spliceI
    rw [if_neg (by rw [h]; decide)]
  generalize allI s = l at o1 o2 pw fin bad ⊢
  refine ⟨o1, ?_⟩
  refine ⟨fun z => ∃ k : Nat, k ≤ l.length ∧ z.1 = (k : Int) ∧ z.2.1 = keysM (l.take k), fun z => l.length - z.1.toNat, ⟨0, Nat.zero_le _, rfl, rfl⟩, ?_⟩
  rintro i m ⟨k, hk, hi, hm⟩
  simp only at hi hm
  subst hi hm
  refine ⟨fun h => ?_, fun h => ?_⟩
  · have hlt : k < l.length := by omega
    have hw : IntKind.i64.wrap ((k : Int) + 1) = ((k + 1 : Nat) : Int) := wrap_succ (by omega)
    have hks := keysM_snoc hlt
    rw [toNat_cast, hw]
    refine ⟨⟨by omega, h⟩, (mget_keysM _ _).1.2 (hasId_no fun j hj e => ?_), ⟨k + 1, hlt, rfl, hks.symm⟩, by simp only [toNat_cast]; omega⟩
    have hjk : j < k := by simp at hj; omega
    have hp := List.pairwise_iff_getElem.1 pw j k (by omega) hlt hjk
    rw [getD_of zI hj, getD_of zI hlt, List.getElem_take] at e
    exact hp e
  have hke : k = l.length := by omega
  subst hke
  rw [List.take_length]
  clear h hk
  refine ⟨fun z => ∃ k : Nat, k ≤ rm.length ∧ z.1 = (k : Int) ∧ z.2.1 = keysM (left l (rm.take k)) ∧ rmOk (l.map (·.1)) rm = rmOk ((left l (rm.take k)).map (·.1)) (rm.drop k), fun z => rm.length - z.1.toNat, ⟨0, Nat.zero_le _, rfl, by rw [List.take_zero, left_nil], by rw [List.take_zero, left_nil]; rfl⟩, ?_⟩
  rintro i m ⟨k, hk, hi, hm, hr⟩
  simp only at hi hm
  subst hi hm
  refine ⟨fun h => ?_, fun h => ?_⟩
  · have hlt : k < rm.length := by omega
    have hw : IntKind.i64.wrap ((k : Int) + 1) = ((k + 1 : Nat) : Int) := wrap_succ (by omega)
    rw [rm_step pw hlt] at hr
    have hgs := (mget_keysM (rm.getD k 0) (left l (rm.take k))).2
    rw [toNat_cast, hw, hgs]
    refine ⟨⟨by omega, h⟩, fun h2 => bad (by rw [hr, h2]; rfl), fun h2 => ⟨⟨k + 1, hlt, rfl, ?_, ?_⟩, by simp only [toNat_cast]; omega⟩⟩
    · rw [mdel_keysM _ _ (left_pw pw _), take_one 0 hlt, left_snoc]
    · rw [hr, h2, Bool.true_and]
  have hke : k = rm.length := by omega
  subst hke
  rw [List.take_length, List.drop_length] at hr
  rw [List.take_length]
  have hr : rmOk (l.map (·.1)) rm = true := hr
  refine ⟨o1, ?_⟩
  refine ⟨fun z => ∃ k : Nat, k ≤ l.length ∧ z.2.1 = (k : Int) ∧ z.1.length ≤ k ∧ z.1 = (l.take k).filter (fun x => !rm.contains x.1), fun z => l.length - z.2.1.toNat, ⟨0, Nat.zero_le _, rfl, Nat.zero_le _, rfl⟩, ?_⟩
  rintro o i ⟨k, hk, hi, hol, ho⟩
  simp only at hi hol ho
  subst hi
  refine ⟨fun h => ?_, fun h => ?_⟩
  · have hlt : k < l.length := by omega
    have hw : IntKind.i64.wrap ((k : Int) + 1) = ((k + 1 : Nat) : Int) := wrap_succ (by omega)
    have hf := filter_one (f := fun x : Inl => !rm.contains x.1) (d := zI) hlt
    have hxm : l.getD k zI ∈ l := by rw [getD_of zI hlt]; exact List.getElem_mem _
    rw [toNat_cast, hw, (mget_keysM (l.getD k zI).1 (left l rm)).2]
    have hh : hasId (l.getD k zI).1 (left l rm) = !rm.contains (l.getD k zI).1 := by
      rw [Bool.eq_iff_iff, hasId_iff]
      constructor
      · rintro ⟨y, hy, e⟩
        obtain ⟨y1, y2⟩ := List.mem_filter.1 hy
        rw [← e]; exact y2
      · intro hc
        exact ⟨_, List.mem_filter.2 ⟨hxm, hc⟩, rfl⟩
    rw [hh]
    generalize l.getD k zI = x at hf ⊢
    simp only [List.length_singleton, toNat_cast]
    refine ⟨⟨by omega, h⟩, fun g => ⟨by omega, by omega, ⟨k + 1, hlt, rfl, by simp; exact hol, ?_⟩, by omega⟩, fun g => ⟨⟨k + 1, hlt, rfl, by omega, ?_⟩, by omega⟩⟩
    · rw [hf, if_pos g, ho]
    · rw [hf, if_neg (by rw [g]; decide), List.append_nil, ho]
  · have hke : k = l.length := by omega
    subst hke
    rw [List.take_length] at ho
    have hsl : shortL o := by rw [ho]; exact short_filter o2 _
    rw [fin hr]
    refine ⟨by omega, by omega, ⟨by simp; omega, short_app hsl hsa⟩, ?_⟩
    rw [ho]
    rfl
theorem p11 : vc11 := by
  unfold vc11
  simp only [eq_self, true_and, and_true, decide_eq_true_eq, decide_eq_false_iff_not, beq_iff_eq, beq_eq_false_iff_ne, ne_eq]
  rintro ⟨w, rm, add, ⟨⟩⟩
  simp only [maxLen_eq, d48]
  rintro ⟨⟨o1, o2, o3, o4⟩, hrm, hadd, hsa⟩
  have fin : ¬ (((w.2.1).countP (fun x => decide (rm.count x.1 = 1)) : Nat) : Int) < (rm.length : Int) → spliceW w rm add = newW w.1 (w.2.1.filter (fun x => decide (rm.count x.1 = 0)) ++ add) := fun h => by
    unfold spliceW
    rw [if_neg h]
  have bad : (((w.2.1).countP (fun x => decide (rm.count x.1 = 1)) : Nat) : Int) < (rm.length : Int) → ((0 : Int), [], (6 : Int), ()) = spliceW w rm add := fun h => by
    unfold spliceW
    rw [if_pos h]
  generalize w.2.1 = l at o1 o2 fin bad ⊢
  refine ⟨fun z => ∃ k : Nat, k ≤ l.length ∧ z.2.2.1 = (k : Int) ∧ z.1.length ≤ k ∧ z.1 = (l.take k).filter (fun x => decide (rm.count x.1 = 0)) ∧ z.2.1 = (((l.take k).countP (fun x => decide (rm.count x.1 = 1)) : Nat) : Int), fun z => l.length - z.2.2.1.toNat, ⟨0, Nat.zero_le _, rfl, Nat.zero_le _, rfl, rfl⟩, ?_⟩
  rintro o c i ⟨k, hk, hi, hol, ho, hc⟩
  simp only at hi hol ho hc
  subst hi
  have hcl : (l.take k).countP (fun x => decide (rm.count x.1 = 1)) ≤ k := Nat.le_trans List.countP_le_length (by simp; omega)
  refine ⟨fun h => ?_, fun h => ?_⟩
  · have hlt : k < l.length := by omega
    have hw : IntKind.i64.wrap ((k : Int) + 1) = ((k + 1 : Nat) : Int) := wrap_succ (by omega)
    have hwc : IntKind.i64.wrap (c + 1) = c + 1 := wrap_id (by omega) (by omega)
    have hf := filter_one (f := fun x : Inl => decide (rm.count x.1 = 0)) (d := zI) hlt
    have hcs : (l.take (k + 1)).countP (fun x => decide (rm.count x.1 = 1)) = (l.take k).countP (fun x => decide (rm.count x.1 = 1)) + (if rm.count (l.getD k zI).1 = 1 then 1 else 0) := by
      rw [take_snoc' hlt, List.countP_append, List.countP_singleton]
      simp only [decide_eq_true_eq]
    rw [toNat_cast, hw, hwc]
    generalize l.getD k zI = x at hf hcs ⊢
    have et : timesI x.1 rm = (rm.count x.1 : Int) := rfl
    rw [et]
    simp only [List.length_singleton, toNat_cast]
    have d : l.length - (k + 1) < l.length - k := by omega
    refine ⟨⟨by omega, h⟩, by omega, fun h1 => ⟨by omega, by omega, fun h2 => by omega, fun h2 => ⟨⟨k + 1, hlt, rfl, by simp; exact hol, ?_, ?_⟩, d⟩⟩, fun h1 => ⟨fun h2 => ⟨⟨k + 1, hlt, rfl, by omega, ?_, ?_⟩, d⟩, fun h2 => ⟨⟨k + 1, hlt, rfl, by omega, ?_, ?_⟩, d⟩⟩⟩
    · rw [hf, if_pos (decide_eq_true (by omega)), ho]
    · rw [hcs, if_neg (by omega), hc]; rfl
    · rw [hf, if_neg (by rw [decide_eq_true_eq]; omega), List.append_nil, ho]
    · rw [hcs, if_pos (by omega), hc]; omega
    · rw [hf, if_neg (by rw [decide_eq_true_eq]; omega), List.append_nil, ho]
    · rw [hcs, if_neg (by omega), hc]; rfl
  · have hke : k = l.length := by omega
    subst hke
    rw [List.take_length] at ho hc
    subst hc
    have hsl : shortL o := by rw [ho]; exact short_filter o2 _
    refine ⟨bad, fun h => ⟨by omega, by omega, ⟨by simp; omega, short_app hsl hsa⟩, ?_⟩⟩
    rw [fin h, ho]
theorem refMap_before {p b : Int} : ∀ (l : List Chg) (last : Chg) (f : Bool) (s : Int), normFrom last f l = true → p < last.1.2.1 → refMap p b l s = p + s
  | [], _, _, _, _, _ => rfl
  | c :: r, last, f, s, hn, hp => by
    have h := normFrom_cons.1 hn
    have ok := okStep_iff.1 h.1
    rw [refMap, if_neg (by omega), if_neg (by omega)]
    exact refMap_before r c false s h.2 (by omega)
theorem refMap_eq {p b : Int} : ∀ (l : List Chg) (last : Chg) (f : Bool) (s : Int), normFrom last f l = true → mapTo p b l s = refMap p b l s
  | [], _, _, _, _ => rfl
  | c :: r, last, f, s, hn => by
    have h := normFrom_cons.1 hn
    have ok := okStep_iff.1 h.1
    have ih := refMap_eq (p := p) (b := b) r c false (c.2.1.2.1 - c.1.2.1) h.2
    rw [mapTo, refMap]
    by_cases h1 : p < c.1.1
    · rw [if_pos h1, if_neg (by omega), if_neg (by omega), refMap_before r c false s h.2 (by omega)]
    · rw [if_neg h1]
      by_cases h2 : p ≤ c.1.2.1
      · rw [if_pos h2, if_pos (show c.1.1 ≤ p ∧ p ≤ c.1.2.1 from ⟨by omega, h2⟩)]
      · rw [if_neg h2, if_neg (by omega), if_pos (by omega), ih]
theorem mapP_in {p : List Chg} {a b : Int} (hn : normal p = true) (h0 : 0 ≤ a) (h1 : a ≤ 1099511627776) (hb : b = 0 ∨ b = 1) : (mapP p a b).1 = mapTo a b p 0 := by
  rw [mapP, if_neg (by rw [hn]; decide), if_neg (by omega)]
theorem endOf_get {p : List Chg} (h : 0 < p.length) : endOf p = (p.getD (p.length - 1) zeroC).1.2.1 := by
  unfold endOf
  have : p.getLast? = some (p.getD (p.length - 1) zeroC) := by
    rw [List.getLast?_eq_getElem?, List.getD_eq_getElem?_getD, List.getElem?_eq_getElem (by omega)]
    rfl
  rw [this]
theorem end_take {p : List Chg} {k : Nat} (h : k < p.length) : endOf (p.take (k + 1)) = (p.getD k zeroC).1.2.1 := by
  unfold endOf
  rw [take_one zeroC h, List.getLast?_concat]
theorem d51 : Ty.dflt t51 = zeroC := rfl
theorem d55 : Ty.dflt t55 = zeroC := rfl
theorem moved_at (p : List Chg) (l : List Inl) {k : Nat} (h : k < l.length) : ((l.take k).map (moveI p) ++ l.drop k).set k (moveI p (l.getD k zI)) = (l.take (k + 1)).map (moveI p) ++ l.drop (k + 1) := by
  have hl : ((l.take k).map (moveI p)).length = k := by simp; omega
  rw [List.set_append, if_neg (by omega), hl, Nat.sub_self, drop_cons zI h, take_snoc' h]
  simp
theorem short_move {p : List Chg} {l : List Inl} (h : shortL l) : shortL (l.map (moveI p)) := fun x hx => by
  obtain ⟨y, hy, rfl⟩ := List.mem_map.1 hx
  exact h y hy
theorem p16 : vc16 := by
  unfold vc16
  simp only [eq_self, true_and, and_true, decide_eq_true_eq, decide_eq_false_iff_not, Bool.not_eq_true', Bool.not_eq_false']
  rintro ⟨s, p, ⟨⟩⟩
  simp only [d48, d51]
  rintro ⟨⟨hl, hsh, _, hn0, hn1⟩, hp⟩
  replace hn1 : lenI s ≤ (1099511627776 : Int) := hn1
  replace hn0 : (0 : Int) ≤ lenI s := hn0
  have hpm : p.length ≤ maxLen := by rw [maxLen_eq]; omega
  have r4 : normal p = false → (none, (4 : Int), ()) = shiftI s p := fun h => by rw [shiftI, if_pos h]
  have r1 : normal p = true → (endOf p > lenI s ∨ w64 (lenI s + delta p) > 1099511627776) → (none, (1 : Int), ()) = shiftI s p := fun h1 h2 => by
    rw [shiftI, if_neg (by rw [h1]; decide), if_pos h2]
  have fin : normal p = true → ¬ endOf p > lenI s → ¬ w64 (lenI s + delta p) > 1099511627776 → shiftI s p = newI (w64 (lenI s + delta p)) ((allI s).map (moveI p)) := fun h1 h2 h3 => by
    rw [shiftI, if_neg (by rw [h1]; decide), if_neg (by omega)]
  have hlast : 0 < p.length → (IntKind.i64.wrap ((p.length : Int) - 1)).toNat = p.length - 1 ∧ (0 ≤ IntKind.i64.wrap ((p.length : Int) - 1) ∧ IntKind.i64.wrap ((p.length : Int) - 1) < (p.length : Int)) := fun h => by
    have : IntKind.i64.wrap ((p.length : Int) - 1) = (p.length : Int) - 1 := by rw [wrap_eq]; omega
    rw [this]
    omega
  have hend0 : ¬ 0 < p.length → endOf p = 0 := fun h => by
    have : p = [] := List.eq_nil_of_length_eq_zero (by omega)
    rw [this]
    rfl
  have loop : normal p = true → ¬ endOf p > lenI s → ¬ w64 (lenI s + delta p) > 1099511627776 → ∃ (Z : Int × List Inl × Unit → Prop), ∃ (μ : Int × List Inl × Unit → Nat), Z (0, allI s, ()) ∧ ∀ (i : Int) (a : List Inl), Z (i, a, ()) →
      (i < ((allI s).length : Int) → (0 ≤ i ∧ i < (a.length : Int)) ∧ (0 ≤ i ∧ i < (a.length : Int)) ∧ p.length ≤ maxLen ∧ (0 ≤ i ∧ i < (a.length : Int)) ∧
        Z (IntKind.i64.wrap (i + 1), a.set i.toNat ((a.getD i.toNat zI).1, (mapP p (a.getD i.toNat zI).2.1 (a.getD i.toNat zI).2.2.1).1, (a.getD i.toNat zI).2.2), ()) ∧
        μ (IntKind.i64.wrap (i + 1), a.set i.toNat ((a.getD i.toNat zI).1, (mapP p (a.getD i.toNat zI).2.1 (a.getD i.toNat zI).2.2.1).1, (a.getD i.toNat zI).2.2), ()) < μ (i, a, ())) ∧
      (¬ i < ((allI s).length : Int) → p.length ≤ maxLen ∧ (a.length ≤ maxLen ∧ shortL a) ∧ newI (IntKind.i64.wrap (lenI s + delta p)) a = shiftI s p) := by
    intro h1 h2 h3
    rw [fin h1 h2 h3]
    generalize allI s = l at hl hsh ⊢
    refine ⟨fun z => ∃ k : Nat, k ≤ l.length ∧ z.1 = (k : Int) ∧ z.2.1 = (l.take k).map (moveI p) ++ l.drop k, fun z => l.length - z.1.toNat, ⟨0, Nat.zero_le _, rfl, rfl⟩, ?_⟩
    rintro i a ⟨k, hk, hi, ha⟩
    simp only at hi ha
    subst hi
    have hal : a.length = l.length := by rw [ha]; simp; omega
    refine ⟨fun h => ?_, fun h => ?_⟩
    · have hlt : k < l.length := by omega
      have hw : IntKind.i64.wrap ((k : Int) + 1) = ((k + 1 : Nat) : Int) := wrap_succ (by omega)
      have hm := moved_at p l hlt
      have hg : a.getD k zI = l.getD k zI := by
        have hl2 : ((l.take k).map (moveI p)).length = k := by simp; omega
        rw [ha, List.getD_eq_getElem?_getD, List.getElem?_append_right (by omega), hl2, Nat.sub_self, drop_cons zI hlt]
        rfl
      rw [toNat_cast, hw, hg]
      refine ⟨⟨by omega, by omega⟩, ⟨by omega, by omega⟩, hpm, ⟨by omega, by omega⟩, ⟨k + 1, hlt, rfl, ?_⟩, by simp only [toNat_cast]; omega⟩
      rw [← hm, ha]
      rfl
    · have hke : k = l.length := by omega
      rw [hke, List.take_length, List.drop_length, List.append_nil] at ha
      rw [maxLen_eq] at hpm ⊢
      refine ⟨hpm, ⟨by omega, by rw [ha]; exact short_move hsh⟩, ?_⟩
      rw [ha]
      rfl
  refine ⟨hpm, r4, fun h1 => ⟨fun h2 => ?_, fun h2 => ?_⟩⟩
  · obtain ⟨q1, q2⟩ := hlast (by omega)
    rw [q1, ← endOf_get (by omega)]
    exact ⟨q2, fun h3 => r1 h1 (.inl h3), fun h3 => ⟨hpm, fun h4 => r1 h1 (.inr h4), fun h4 => ⟨hl, loop h1 h3 h4⟩⟩⟩
  · have h3 : ¬ endOf p > lenI s := by rw [hend0 (by omega)]; omega
    exact ⟨hpm, fun h4 => r1 h1 (.inr h4), fun h4 => ⟨hl, loop h1 h3 h4⟩⟩
theorem moveW_snoc {p : List Chg} {l : List Inl} {k : Nat} (h : k < l.length) : (l.take (k + 1)).map (moveW p) = (l.take k).map (moveW p) ++ [((l.getD k zI).1, refMap (l.getD k zI).2.1 (l.getD k zI).2.2.1 p 0, (l.getD k zI).2.2)] := by
  rw [take_snoc' h, List.map_append]
  rfl
theorem short_moveW {p : List Chg} {l : List Inl} (h : shortL l) : shortL (l.map (moveW p)) := fun x hx => by
  obtain ⟨y, hy, rfl⟩ := List.mem_map.1 hx
  exact h y hy
theorem p17 : vc17 := by
  unfold vc17
  simp only [eq_self, true_and, and_true, decide_eq_true_eq, decide_eq_false_iff_not, Bool.not_eq_true', Bool.not_eq_false']
  rintro ⟨w, p, ⟨⟩⟩
  simp only [d48, d55]
  rintro ⟨⟨hl, hsh, hn0, hn1⟩, hb, hp⟩
  replace hn1 : w.1 ≤ (1099511627776 : Int) := hn1
  replace hn0 : (0 : Int) ≤ w.1 := hn0
  replace hb : ∀ m ∈ w.2.1, (0 : Int) ≤ m.2.1 ∧ m.2.1 ≤ (1099511627776 : Int) := hb
  have hpm : p.length ≤ maxLen := by rw [maxLen_eq]; omega
  refine ⟨hpm, fun h => by rw [shiftW, if_pos h], fun hn => ?_⟩
  have r1 : (endOf p > w.1 ∨ w64 (w.1 + delta p) > 1099511627776) → ((0 : Int), [], (1 : Int), ()) = shiftW w p := fun h => by
    rw [shiftW, if_neg (by rw [hn]; decide), if_pos h]
  refine ⟨fun z => ∃ k : Nat, k ≤ p.length ∧ z.2.2.1 = (k : Int) ∧ z.1 = w64 (w.1 + delta (p.take k)) ∧ z.2.1 = endOf (p.take k), fun z => p.length - z.2.2.1.toNat, ⟨0, Nat.zero_le _, rfl, ?_, rfl⟩, ?_⟩
  · show w.1 = w64 (w.1 + 0)
    unfold w64
    rw [wrap_id (by omega) (by omega)]
    omega
  rintro g e i ⟨k, hk, hi, hg, he⟩
  simp only at hi hg he
  subst hi
  refine ⟨fun h => ⟨⟨by omega, h⟩, ?_⟩, fun h => ?_⟩
  · have hlt : k < p.length := by omega
    have hwk : IntKind.i64.wrap ((k : Int) + 1) = ((k + 1 : Nat) : Int) := wrap_succ (by omega)
    have hd := delta_take hlt
    have ht := end_take hlt
    rw [toNat_cast, hwk]
    generalize p.getD k zeroC = c at hd ht ⊢
    refine ⟨⟨k + 1, hlt, rfl, ?_, ht.symm⟩, by simp only [toNat_cast]; omega⟩
    rw [hd, hg]
    unfold w64 size w64
    simp only [wrap_eq]
    omega
  · have hke : k = p.length := by omega
    subst hke
    rw [List.take_length] at hg he
    subst hg he
    refine ⟨fun h1 => r1 (.inl h1), fun h1 => ⟨fun h2 => r1 (.inr h2), fun h2 => ?_⟩⟩
    have fin : shiftW w p = newW (w64 (w.1 + delta p)) (w.2.1.map (moveW p)) := by
      rw [shiftW, if_neg (by rw [hn]; decide), if_neg (fun hh => hh.elim h1 h2)]
    rw [fin]
    generalize w.2.1 = l at hl hsh hb ⊢
    refine ⟨fun z => ∃ k : Nat, k ≤ l.length ∧ z.2.1 = (k : Int) ∧ z.1 = (l.take k).map (moveW p), fun z => l.length - z.2.1.toNat, ⟨0, Nat.zero_le _, rfl, rfl⟩, ?_⟩
    rintro a i ⟨k, hk, hi, ha⟩
    simp only at hi ha
    subst hi
    have hal : a.length = k := by rw [ha]; simp; omega
    refine ⟨fun h => ?_, fun h => ?_⟩
    · have hlt : k < l.length := by omega
      have hw : IntKind.i64.wrap ((k : Int) + 1) = ((k + 1 : Nat) : Int) := wrap_succ (by omega)
      have hm := moveW_snoc (p := p) hlt
      have hbk := hb _ (List.getElem_mem hlt)
      rw [← getD_of zI hlt] at hbk
      rw [toNat_cast, hw]
      rw [maxLen_eq] at hpm ⊢
      simp only [List.length_singleton, toNat_cast]
      exact ⟨⟨by omega, h⟩, ⟨hpm, hn, hbk.1, hbk.2⟩, by omega, by omega, ⟨k + 1, hlt, rfl, by rw [hm, ha]⟩, by omega⟩
    · have hke : k = l.length := by omega
      rw [hke, List.take_length] at ha
      rw [maxLen_eq]
      refine ⟨⟨by omega, by rw [ha]; exact short_moveW hsh⟩, ?_⟩
      rw [ha]
end Go.Fr.Z14
namespace Go.Fr.Z14
open Go Go.Fr Go.Proofs
theorem wi_zero {n : Int} {x : Inl} : wrongI n x = 0 ↔ ¬ (x.1 < 1 ∨ x.2.1 < 0 ∨ x.2.1 > n ∨ (x.2.2.1 ≠ 0 ∧ x.2.2.1 ≠ 1)) ∧ ¬ ((decodeL (txt x)).length : Int) > 40 ∧ ¬ ((txt x).size = 0 ∨ hasNL (txt x) = true) := by
  by_cases h1 : x.1 < 1 ∨ x.2.1 < 0 ∨ x.2.1 > n ∨ (x.2.2.1 ≠ 0 ∧ x.2.2.1 ≠ 1)
  · rw [← wi_1 h1]
    constructor
    · intro h; cases h
    · rintro ⟨h, _⟩; exact absurd h1 h
  · by_cases h2 : ((decodeL (txt x)).length : Int) > 40
    · rw [← wi_2 h1 h2]
      constructor
      · intro h; cases h
      · rintro ⟨_, h, _⟩; exact absurd h2 h
    · by_cases h3 : (txt x).size = 0 ∨ hasNL (txt x) = true
      · rw [← wi_4 h1 h2 h3]
        constructor
        · intro h; cases h
        · rintro ⟨_, _, h⟩; exact absurd h3 h
      · rw [← wi_0 h1 h2 h3]
        exact ⟨fun _ => ⟨h1, h2, h3⟩, fun _ => rfl⟩
theorem wi_at {n : Int} {x : Inl} (h : wrongI n x = 0) : 1 ≤ x.1 ∧ 0 ≤ x.2.1 ∧ x.2.1 ≤ n ∧ (x.2.2.1 = 0 ∨ x.2.2.1 = 1) := by
  have := (wi_zero.1 h).1
  omega
theorem nl_clean (s : ByteArray) : hasNL (clean s) = hasNL s := by
  rw [Bool.eq_iff_iff, nl_dec, nl_dec, dec_clean]
theorem size_clean (s : ByteArray) : (clean s).size = 0 ↔ s.size = 0 := by
  rw [← dec_none, ← dec_none, dec_clean]
theorem wi_clean {n : Int} {x : Inl} (h : wrongI n x = 0) : wrongI n (cleanI x) = 0 := by
  obtain ⟨h1, h2, h3⟩ := wi_zero.1 h
  refine wi_zero.2 ⟨h1, ?_, ?_⟩
  · show ¬ ((decodeL (clean (txt x))).length : Int) > 40
    rw [dec_clean]
    exact h2
  · show ¬ ((clean (txt x)).size = 0 ∨ hasNL (clean (txt x)) = true)
    rw [nl_clean, size_clean]
    exact h3
theorem clean_small {n : Int} {x : Inl} (h : wrongI n x = 0) : (txt (cleanI x)).size ≤ 160 := by
  have h2 := (wi_zero.1 h).2.1
  have := encode_size (decodeL (txt x))
  show (encode (decodeL (txt x))).size ≤ 160
  omega
theorem clean_twice (x : Inl) : cleanI (cleanI x) = cleanI x := by
  show (x.1, x.2.1, x.2.2.1, x.2.2.2.1, clean (clean (txt x)), ()) = cleanI x
  rw [clean_clean]
  rfl
theorem errI_zero {n : Int} : (seen l : List Inl) → (∀ x ∈ l, wrongI n x = 0 ∧ hasId x.1 seen = false) → l.Pairwise (fun a b => a.1 ≠ b.1) → errI n seen l = 0
  | _, [], _, _ => rfl
  | seen, x :: r, h, hp => by
    obtain ⟨h1, h2⟩ := h x (List.mem_cons_self ..)
    obtain ⟨p1, p2⟩ := List.pairwise_cons.1 hp
    rw [err_on (ww_0 h1.symm h2).symm]
    refine errI_zero _ r (fun y hy => ⟨(h y (List.mem_cons_of_mem _ hy)).1, ?_⟩) p2
    have g := (h y (List.mem_cons_of_mem _ hy)).2
    simp [hasId] at g ⊢
    exact ⟨g, p1 y hy⟩
theorem wrong_zero {n : Int} {l : List Inl} : wrongN n l = 0 ↔ (0 ≤ n ∧ n ≤ 1099511627776) ∧ (l.length : Int) ≤ 60 ∧ (∀ x ∈ l, wrongI n x = 0) ∧ l.Pairwise (fun a b => a.1 ≠ b.1) := by
  unfold wrongN
  by_cases h1 : n < 0 ∨ n > 1099511627776
  · rw [if_pos h1]
    constructor
    · intro h; cases h
    · intro h; omega
  · rw [if_neg h1]
    by_cases h2 : (l.length : Int) > 60
    · rw [if_pos h2]
      constructor
      · intro h; cases h
      · intro h; omega
    · rw [if_neg h2]
      constructor
      · intro h
        have := errI_ids [] l h
        exact ⟨by omega, by omega, fun x hx => (this.1 x hx).1, this.2⟩
      · rintro ⟨_, _, h3, h4⟩
        exact errI_zero [] l (fun x hx => ⟨h3 x hx, rfl⟩) h4
theorem sort_perm (l : List Inl) : (sortI l).Perm l := sortBy_perm l
theorem sort_len (l : List Inl) : (sortI l).length = l.length := (sort_perm l).length_eq
theorem ids_perm {l m : List Inl} (h : l.Perm m) (hp : l.Pairwise (fun a b => a.1 ≠ b.1)) : m.Pairwise (fun a b => a.1 ≠ b.1) := h.pairwise hp (fun h e => h e.symm)
theorem wrong_perm {n : Int} {l m : List Inl} (h : l.Perm m) (hw : wrongN n l = 0) : wrongN n m = 0 := by
  obtain ⟨h1, h2, h3, h4⟩ := wrong_zero.1 hw
  exact wrong_zero.2 ⟨h1, by rw [← h.length_eq]; exact h2, fun x hx => h3 x (h.mem_iff.2 hx), ids_perm h h4⟩
theorem wrong_clean {n : Int} {l : List Inl} (hw : wrongN n l = 0) : wrongN n (l.map cleanI) = 0 := by
  obtain ⟨h1, h2, h3, h4⟩ := wrong_zero.1 hw
  refine wrong_zero.2 ⟨h1, by rw [List.length_map]; exact h2, fun y hy => ?_, clean_ids h4⟩
  obtain ⟨x, hx, rfl⟩ := List.mem_map.1 hy
  exact wi_clean (h3 x hx)
theorem sort_perm_eq {l m : List Inl} (h : l.Perm m) (hp : l.Pairwise (fun a b => a.1 ≠ b.1)) : sortI l = sortI m := by
  refine one_way (ids_perm h hp) ((sort_perm l).trans h) ?_
  rw [← insI_sort hp]
  exact (insI_perm l).2
theorem sort_id {l : List Inl} (hp : l.Pairwise (fun a b => a.1 ≠ b.1)) (hs : l.Pairwise (fun a b => ¬ cmpL b a < 0)) : sortI l = l := (one_way hp (List.Perm.refl _) hs).symm
theorem sort_sorted {l : List Inl} (hp : l.Pairwise (fun a b => a.1 ≠ b.1)) : (sortI l).Pairwise (fun a b => ¬ cmpL b a < 0) := by
  rw [← insI_sort hp]
  exact (insI_perm l).2
theorem new_fst {n : Int} {l : List Inl} (h : wrongN n l = 0) : newI n l = (some (n, sortI (l.map cleanI), ()), 0, ()) := by rw [newI, if_pos h]
theorem new_bad {n : Int} {l : List Inl} (h : wrongN n l ≠ 0) : newI n l = (none, wrongN n l, ()) := by rw [newI, if_neg h]
theorem newW_fst {n : Int} {l : List Inl} (h : wrongN n l = 0) : newW n l = (n, sortI (l.map cleanI), 0, ()) := by
  rw [newW, if_pos h, insI_sort (clean_ids (wrong_zero.1 h).2.2.2)]
theorem newW_bad {n : Int} {l : List Inl} (h : wrongN n l ≠ 0) : newW n l = (0, [], wrongN n l, ()) := by rw [newW, if_neg h]
def Made (s : Option ISet) (w : WSet) : Prop := ∃ n L, s = some (n, L, ()) ∧ w = (n, L, 0, ()) ∧ wrongN n L = 0 ∧ L.map cleanI = L ∧ L.Pairwise (fun a b => ¬ cmpL b a < 0)
theorem made_new {n : Int} {l : List Inl} (h : wrongN n l = 0) : Made (newI n l).1 (newW n l) := by
  rw [new_fst h, newW_fst h]
  have h2 := wrong_clean h
  have ids := clean_ids (wrong_zero.1 h).2.2.2
  refine ⟨n, _, rfl, rfl, wrong_perm (sort_perm _).symm h2, ?_, sort_sorted ids⟩
  conv => rhs; rw [← List.map_id (sortI (l.map cleanI))]
  refine List.map_congr_left fun x hx => ?_
  obtain ⟨y, _, rfl⟩ := List.mem_map.1 ((sort_perm _).mem_iff.1 hx)
  exact clean_twice y
theorem new_is (n : Int) (l : List Inl) : isI (newI n l).1 (newI n l).2.1 (newW n l) = true ∧ ((newI n l).1 = none ∨ ((newI n l).2.1 = 0 ∧ Made (newI n l).1 (newW n l))) := by
  by_cases h : wrongN n l = 0
  · refine ⟨?_, .inr ⟨by rw [new_fst h], made_new h⟩⟩
    rw [new_fst h, newW_fst h]
    simp [isI, sameL, allI, lenI]
  · refine ⟨?_, .inl (by rw [new_bad h])⟩
    rw [new_bad h, newW_bad h]
    simp [isI, h]
theorem made_ok {s : Option ISet} {w : WSet} (h : Made s w) : s.isNone = false ∧ okI s ∧ okW w ∧ w.1 = lenI s ∧ w.2.1 = allI s ∧ w.2.2.1 = 0 ∧ isI s 0 w = true ∧ (allI s).length ≤ 60 ∧ (∀ m ∈ allI s, (0 : Int) ≤ m.2.1 ∧ m.2.1 ≤ (1099511627776 : Int)) := by
  obtain ⟨n, L, rfl, rfl, hw, hc, hs⟩ := h
  obtain ⟨h1, h2, h3, h4⟩ := wrong_zero.1 hw
  have sh : shortL L := fun x hx => by
    have : cleanI x ∈ L.map cleanI := List.mem_map.2 ⟨x, hx, rfl⟩
    obtain ⟨y, hy, e⟩ := List.mem_map.1 (by rw [hc]; exact hx : x ∈ L.map cleanI)
    rw [← e]
    have := clean_small (h3 y hy)
    omega
  have hl : L.length ≤ 60 := by omega
  refine ⟨rfl, ⟨?_, sh, nodup_pw.2 h4, h1.1, h1.2⟩, ⟨?_, sh, h1.1, h1.2⟩, rfl, rfl, rfl, ?_, hl, fun m hm => ?_⟩
  · show L.length ≤ 10000; omega
  · show L.length ≤ 10000; omega
  · simp [isI, sameL, allI, lenI]
  · have := wi_at (h3 m hm)
    omega
theorem nodup_len : (A B : List Int) → A.Nodup → (∀ a ∈ A, a ∈ B) → A.length ≤ B.length
  | [], _, _, _ => Nat.zero_le _
  | a :: A, B, h, hs => by
    obtain ⟨h1, h2⟩ := List.nodup_cons.1 h
    have hb := hs a (List.mem_cons_self ..)
    have ih := nodup_len A (B.erase a) h2 fun x hx => by
      have hne : x ≠ a := fun e => h1 (e ▸ hx)
      exact (List.mem_erase_of_ne hne).2 (hs x (List.mem_cons_of_mem _ hx))
    rw [List.length_erase_of_mem hb] at ih
    have : 0 < B.length := List.length_pos_of_mem hb
    simp only [List.length_cons]
    omega
theorem nodup_all : (F R : List Int) → F.Nodup → (∀ a ∈ F, a ∈ R) → R.length ≤ F.length → R.Nodup ∧ ∀ a ∈ R, a ∈ F
  | [], R, _, _, hl => by
    have : R = [] := List.eq_nil_of_length_eq_zero (by simpa using hl)
    subst this
    exact ⟨List.nodup_nil, fun a ha => by cases ha⟩
  | f :: F, R, h, hs, hl => by
    obtain ⟨h1, h2⟩ := List.nodup_cons.1 h
    have hb := hs f (List.mem_cons_self ..)
    have hpos : 0 < R.length := List.length_pos_of_mem hb
    obtain ⟨g1, g2⟩ := nodup_all F (R.erase f) h2 (fun x hx => by
      have hne : x ≠ f := fun e => h1 (e ▸ hx)
      exact (List.mem_erase_of_ne hne).2 (hs x (List.mem_cons_of_mem _ hx))) (by
      rw [List.length_erase_of_mem hb]
      simp only [List.length_cons] at hl
      omega)
    have pm := List.perm_cons_erase hb
    refine ⟨pm.nodup_iff.2 (List.nodup_cons.2 ⟨fun hf => h1 (g2 f hf), g1⟩), fun a ha => ?_⟩
    rcases List.mem_cons.1 (pm.mem_iff.1 ha) with e | ha
    · subst e; exact List.mem_cons_self ..
    · exact List.mem_cons_of_mem _ (g2 a ha)
theorem rmOk_iff : (m rm : List Int) → m.Nodup → (rmOk m rm = true ↔ rm.Nodup ∧ ∀ i ∈ rm, i ∈ m)
  | m, [], _ => by simp [rmOk]
  | m, i :: r, h => by
    have ih := rmOk_iff (m.erase i) r (h.erase i)
    show (m.contains i && rmOk (m.erase i) r) = true ↔ _
    rw [Bool.and_eq_true, List.contains_iff_mem, ih, List.nodup_cons]
    constructor
    · rintro ⟨h1, h2, h3⟩
      refine ⟨⟨fun hi => ?_, h2⟩, fun j hj => ?_⟩
      · have := h3 i hi
        rw [h.mem_erase_iff] at this
        exact this.1 rfl
      · rcases List.mem_cons.1 hj with e | hj
        · subst e; exact h1
        · exact List.mem_of_mem_erase (h3 j hj)
    · rintro ⟨⟨h1, h2⟩, h3⟩
      refine ⟨h3 i (List.mem_cons_self ..), h2, fun j hj => ?_⟩
      have hne : j ≠ i := fun e => h1 (e ▸ hj)
      exact (List.mem_erase_of_ne hne).2 (h3 j (List.mem_cons_of_mem _ hj))
theorem rm_count {l : List Inl} (h : (l.map (·.1)).Nodup) (rm : List Int) : rmOk (l.map (·.1)) rm = true ↔ ¬ ((l.countP (fun x => decide (rm.count x.1 = 1)) : Nat) : Int) < (rm.length : Int) := by
  rw [rmOk_iff _ _ h]
  have e : l.countP (fun x => decide (rm.count x.1 = 1)) = ((l.map (·.1)).filter (fun i => decide (rm.count i = 1))).length := by
    rw [← List.countP_eq_length_filter, List.countP_map]
    rfl
  rw [e]
  generalize l.map (·.1) = m at h ⊢
  constructor
  · rintro ⟨h1, h2⟩
    have := nodup_len rm (m.filter (fun i => decide (rm.count i = 1))) h1 fun i hi => List.mem_filter.2 ⟨h2 i hi, by
      rw [decide_eq_true_eq]
      exact List.nodup_iff_count.1 h1 i |> fun hh => by
        have := List.count_pos_iff.2 hi
        omega⟩
    omega
  · intro hl
    obtain ⟨g1, g2⟩ := nodup_all (m.filter (fun i => decide (rm.count i = 1))) rm (h.filter _) (fun i hi => by
      have := of_decide_eq_true (List.mem_filter.1 hi).2
      exact List.count_pos_iff.1 (by omega)) (by omega)
    exact ⟨g1, fun i hi => (List.mem_filter.1 (g2 i hi)).1⟩
theorem splice_same {s : Option ISet} {w : WSet} (h : Made s w) (rm : List Int) (add : List Inl) :
    (spliceI s rm add = (none, 6, ()) ∧ spliceW w rm add = (0, [], 6, ())) ∨ (rmOk ((allI s).map (·.1)) rm = true ∧ spliceI s rm add = newI (lenI s) (left (allI s) rm ++ add) ∧ spliceW w rm add = newW (lenI s) (left (allI s) rm ++ add)) := by
  obtain ⟨_, o, _, e1, e2, _⟩ := made_ok h
  have hc := rm_count o.2.2.1 rm
  have hf : w.2.1.filter (fun x => decide (rm.count x.1 = 0)) = left (allI s) rm := by
    rw [e2]
    refine List.filter_congr fun x _ => ?_
    rw [Bool.eq_iff_iff]
    simp [List.count_eq_zero]
  unfold spliceI spliceW
  rw [hf, e2, e1]
  by_cases hr : rmOk ((allI s).map (·.1)) rm = true
  · rw [if_pos hr, if_neg (hc.1 hr)]
    exact .inr ⟨hr, rfl, rfl⟩
  · rw [if_neg hr, if_pos (Classical.not_not.1 fun hh => hr (hc.2 hh))]
    exact .inl ⟨rfl, rfl⟩
theorem splice_is {s : Option ISet} {w : WSet} (h : Made s w) (rm : List Int) (add : List Inl) :
    isI (spliceI s rm add).1 (spliceI s rm add).2.1 (spliceW w rm add) = true ∧ ((spliceI s rm add).1 = none ∨ ((spliceI s rm add).2.1 = 0 ∧ Made (spliceI s rm add).1 (spliceW w rm add))) := by
  rcases splice_same h rm add with ⟨h1, h2⟩ | ⟨_, h1, h2⟩
  · rw [h1, h2]
    exact ⟨by simp [isI], .inl rfl⟩
  · rw [h1, h2]
    exact new_is _ _
theorem move_ref {s : Option ISet} {w : WSet} (h : Made s w) {p : List Chg} (hp : normal p = true) : (allI s).map (moveI p) = (allI s).map (moveW p) := by
  obtain ⟨n, L, rfl, rfl, hw, hc, hs⟩ := h
  obtain ⟨h1, h2, h3, h4⟩ := wrong_zero.1 hw
  refine List.map_congr_left fun x hx => ?_
  have ok := wi_at (h3 x hx)
  unfold moveI moveW
  rw [mapP_in hp ok.2.1 (by omega) ok.2.2.2, refMap_eq (p := x.2.1) (b := x.2.2.1) p zeroC true 0 hp]
theorem shift_is {s : Option ISet} {w : WSet} (h : Made s w) (p : List Chg) :
    isI (shiftI s p).1 (shiftI s p).2.1 (shiftW w p) = true ∧ ((shiftI s p).1 = none ∨ ((shiftI s p).2.1 = 0 ∧ Made (shiftI s p).1 (shiftW w p))) := by
  obtain ⟨_, _, _, e1, e2, _⟩ := made_ok h
  unfold shiftI shiftW
  rw [e1, e2]
  cases hn : normal p with
  | false => exact ⟨by simp [isI], .inl rfl⟩
  | true =>
    rw [if_neg (show ¬ (true = false) by decide), if_neg (show ¬ (true = false) by decide), ← move_ref h hn]
    split
    · exact ⟨by simp [isI], .inl rfl⟩
    · exact new_is _ _
end Go.Fr.Z14
namespace Go.Fr.Z14
open Go Go.Fr Go.Proofs
theorem getD_in {α : Type} (d : α) {l : List α} {i : Nat} (h : i < l.length) : l.getD i d ∈ l := by
  rw [List.getD_eq_getElem?_getD, List.getElem?_eq_getElem h]
  exact List.getElem_mem h
theorem wf_height : {h : Nat} → {top : Bool} → {n : Nd} → Wf h top n → heightOf n = (h : Int) ∧ 1 ≤ h ∧ n ≠ .nil
  | 0, _, _, e => e.elim
  | _ + 1, _, .nil, e => e.elim
  | h + 1, _, .leaf a, e => by
    have : h = 0 := e.1
    subst this
    exact ⟨rfl, by omega, fun e => by cases e⟩
  | h + 1, _, .inner ks b, e => ⟨e.2.2.2.1, by omega, fun e => by cases e⟩
theorem wf_top : {h : Nat} → {n : Nd} → Wf h false n → Wf h true n
  | 0, _, e => e
  | _ + 1, .nil, e => e
  | h + 1, .leaf a, e => ⟨e.1, by have := e.2.1; simp at this ⊢; omega, e.2.2⟩
  | h + 1, .inner ks b, e => ⟨e.1, by have := e.2.1; simp at this ⊢; omega, e.2.2⟩
theorem wf_any {h : Nat} {top : Bool} {n : Nd} (e : Wf h top n) : Wf h true n := by
  cases top with
  | true => exact e
  | false => exact wf_top e
theorem itemsF_eq : (h : Nat) → (top : Bool) → (n : Nd) → (m m' : Nat) → Wf h top n → h ≤ m → h ≤ m' → itemsF m n = itemsF m' n
  | 0, _, _, _, _, e, _, _ => e.elim
  | _ + 1, _, .nil, _, _, e, _, _ => e.elim
  | h + 1, _, .leaf a, m + 1, m' + 1, _, _, _ => rfl
  | h + 1, _, .inner ks b, m + 1, m' + 1, e, h1, h2 => by
    show ks.flatMap (itemsF m) = ks.flatMap (itemsF m')
    have hk : ∀ k ∈ ks, Wf h false k := e.2.2.2.2.2
    rw [List.flatMap_def, List.flatMap_def]
    congr 1
    exact List.map_congr_left fun k hk' => itemsF_eq h false k m m' (hk k hk') (by omega) (by omega)
  | _ + 1, _, _, 0, _, _, h1, _ => absurd h1 (by omega)
  | _ + 1, _, _, _ + 1, 0, _, _, h2 => absurd h2 (by omega)
theorem itemsF_inner (m : Nat) (ks : List Nd) (b : Nx) : itemsF (m + 1) (.inner ks b) = ks.flatMap (itemsF m) := rfl
theorem flat_congr {α β : Type} {f g : α → List β} {l : List α} (h : ∀ a ∈ l, f a = g a) : l.flatMap f = l.flatMap g := by
  simp only [List.flatMap_def]
  exact congrArg List.flatten (List.map_congr_left h)
theorem itemsF_of {m k : Nat} (h : m = k + 1) (ks : List Nd) (b : Nx) : itemsF m (.inner ks b) = ks.flatMap (itemsF k) := by
  subst h
  rfl
theorem items_def (n : Nd) : items n = itemsF 101 n := rfl
theorem items_inner {h : Nat} {top : Bool} {ks : List Nd} {b : Nx} (e : Wf (h + 1) top (.inner ks b)) (hh : h + 1 ≤ 101) : items (.inner ks b) = ks.flatMap items := by
  refine (items_def _).trans ((itemsF_of (k := 100) (by decide) ks b).trans ?_)
  have hk : ∀ k ∈ ks, Wf h false k := e.2.2.2.2.2
  exact flat_congr fun k hk' => (itemsF_eq h false k 100 101 (hk k hk') (by omega) (by omega)).trans (items_def k).symm
theorem items_leaf (a : Lf) : items (.leaf a) = a.1 := rfl
theorem items_nil : items .nil = [] := rfl
theorem wf_leaf {top : Bool} {l : List Itm} (h1 : (if top = true then 1 else 4) ≤ l.length) (h2 : l.length ≤ 8) : Wf 1 top (mkLeaf l) := ⟨rfl, h1, h2, rfl⟩
theorem wf_inner {h : Nat} {top : Bool} {ks : List Nd} (h0 : 1 ≤ h) (hh : h ≤ 200) (h1 : (if top = true then 2 else 4) ≤ ks.length) (h2 : ks.length ≤ 8) (hk : ∀ k ∈ ks, Wf h false k) : Wf (h + 1) top (mkInner ks) := by
  refine ⟨h0, h1, h2, ?_, rfl, hk⟩
  have hpos : 0 < ks.length := by split at h1 <;> omega
  have hk0 := (wf_height (hk _ (getD_in .nil hpos))).1
  show w64 (heightOf (ks.getD 0 .nil) + 1) = _
  rw [hk0]
  unfold w64
  rw [wrap_id (by omega) (by omega)]
  omega
def OneTwo (m : Nat) (L : List Nd) (l : List Itm) : Prop := 1 ≤ L.length ∧ L.length ≤ 2 ∧ L.flatMap items = l ∧ (∀ r ∈ L, Wf m true r) ∧ (L.length = 2 → ∀ r ∈ L, Wf m false r)
theorem spread_ok {l : List Itm} (h1 : 1 ≤ l.length) (h2 : l.length ≤ 16) : OneTwo 1 (spread l) l ∧ (4 ≤ l.length → ∀ r ∈ spread l, Wf 1 false r) := by
  unfold spread
  by_cases h : l.length ≤ 8
  · rw [if_pos h]
    refine ⟨⟨Nat.le_refl _, by simp, ?_, fun r hr => ?_, fun e => by simp at e⟩, fun h4 r hr => ?_⟩
    · show items (mkLeaf l) ++ [] = l
      rw [List.append_nil]; rfl
    · rw [List.mem_singleton.1 hr]
      exact wf_leaf (by simpa using h1) h
    · rw [List.mem_singleton.1 hr]
      exact wf_leaf (by simpa using h4) h
  · rw [if_neg h]
    have t1 : (l.take (l.length / 2)).length = l.length / 2 := by simp; omega
    have t2 : (l.drop (l.length / 2)).length = l.length - l.length / 2 := by simp
    have full : ∀ r ∈ [mkLeaf (l.take (l.length / 2)), mkLeaf (l.drop (l.length / 2))], Wf 1 false r := fun r hr => by
      rcases List.mem_cons.1 hr with e | hr
      · subst e; exact wf_leaf (by simp; omega) (by omega)
      · rw [List.mem_singleton.1 hr]; exact wf_leaf (by simp; omega) (by omega)
    refine ⟨⟨by simp, Nat.le_refl _, ?_, fun r hr => wf_top (full r hr), fun _ => full⟩, fun _ => full⟩
    show items (mkLeaf _) ++ (items (mkLeaf _) ++ []) = l
    rw [List.append_nil]
    exact List.take_append_drop _ _
theorem raise_ok {m : Nat} {ks : List Nd} (m0 : 1 ≤ m) (mm : m ≤ 100) (h1 : 2 ≤ ks.length) (h2 : ks.length ≤ 16) (hk : ∀ k ∈ ks, Wf m false k) :
    OneTwo (m + 1) (raise ks) (ks.flatMap items) ∧ (4 ≤ ks.length → ∀ r ∈ raise ks, Wf (m + 1) false r) := by
  unfold raise
  by_cases h : ks.length ≤ 8
  · rw [if_pos h]
    have wt : Wf (m + 1) true (mkInner ks) := wf_inner m0 (by omega) (by simpa using h1) h hk
    refine ⟨⟨Nat.le_refl _, by simp, ?_, fun r hr => ?_, fun e => by simp at e⟩, fun h4 r hr => ?_⟩
    · show items (mkInner ks) ++ [] = _
      rw [List.append_nil]
      exact items_inner wt (by omega)
    · rw [List.mem_singleton.1 hr]; exact wt
    · rw [List.mem_singleton.1 hr]
      exact wf_inner m0 (by omega) (by simpa using h4) h hk
  · rw [if_neg h]
    have t1 : (ks.take (ks.length / 2)).length = ks.length / 2 := by simp; omega
    have t2 : (ks.drop (ks.length / 2)).length = ks.length - ks.length / 2 := by simp
    have w1 : Wf (m + 1) false (mkInner (ks.take (ks.length / 2))) := wf_inner m0 (by omega) (by simp; omega) (by omega) fun k hk' => hk k (List.mem_of_mem_take hk')
    have w2 : Wf (m + 1) false (mkInner (ks.drop (ks.length / 2))) := wf_inner m0 (by omega) (by simp; omega) (by omega) fun k hk' => hk k (List.mem_of_mem_drop hk')
    have full : ∀ r ∈ [mkInner (ks.take (ks.length / 2)), mkInner (ks.drop (ks.length / 2))], Wf (m + 1) false r := fun r hr => by
      rcases List.mem_cons.1 hr with e | hr
      · subst e; exact w1
      · rw [List.mem_singleton.1 hr]; exact w2
    refine ⟨⟨by simp, Nat.le_refl _, ?_, fun r hr => wf_top (full r hr), fun _ => full⟩, fun _ => full⟩
    show items (mkInner _) ++ (items (mkInner _) ++ []) = _
    unfold mkInner at w1 w2 ⊢
    rw [List.append_nil, items_inner w1 (by omega), items_inner w2 (by omega), ← List.flatMap_append, List.take_append_drop]
theorem meld_ok : (n h k : Nat) → (a b : Nd) → h + k ≤ n → h ≤ 100 → k ≤ 100 → Wf h true a → Wf k true b →
    OneTwo (max h k) (meldF n a b) (items a ++ items b) ∧ (k ≤ h → Wf h false a → ∀ r ∈ meldF n a b, Wf (max h k) false r) ∧ (h ≤ k → Wf k false b → ∀ r ∈ meldF n a b, Wf (max h k) false r)
  | 0, h, k, a, b, hn, _, _, wa, wb => by
    have := (wf_height wa).2.1
    omega
  | n + 1, h, k, a, b, hn, h100, k100, wa, wb => by
    obtain ⟨ea, pa, na⟩ := wf_height wa
    obtain ⟨eb, pb, nb⟩ := wf_height wb
    have e : meldF (n + 1) a b = if heightOf a > heightOf b then raise ((kidsOf a).take ((kidsOf a).length - 1) ++ meldF n ((kidsOf a).getD ((kidsOf a).length - 1) .nil) b)
      else if heightOf a < heightOf b then raise (meldF n a ((kidsOf b).getD 0 .nil) ++ (kidsOf b).drop 1)
      else if (NT.asLeaf a).isSome = true then spread (itemsOf a ++ itemsOf b) else raise (kidsOf a ++ kidsOf b) := rfl
    rw [e, ea, eb]
    by_cases h1 : (h : Int) > (k : Int)
    · rw [if_pos h1]
      obtain ⟨h', rfl⟩ : ∃ h', h = h' + 1 := ⟨h - 1, by omega⟩
      cases a with
      | nil => exact absurd rfl na
      | leaf a => have := wa.1; omega
      | inner ks bx =>
        have wa' := wa
        obtain ⟨w1, w2, w3, w4, w5, w6⟩ := wa
        simp only [if_true] at w2
        show OneTwo _ (raise (ks.take (ks.length - 1) ++ meldF n (ks.getD (ks.length - 1) .nil) b)) _ ∧ _
        have hl : ks.length - 1 < ks.length := by omega
        have wl := w6 _ (getD_in .nil hl)
        have hsplit : ks = ks.take (ks.length - 1) ++ [ks.getD (ks.length - 1) .nil] := by
          conv => lhs; rw [← List.take_append_drop (ks.length - 1) ks]
          congr 1
          rw [drop_cons .nil hl, show ks.length - 1 + 1 = ks.length by omega, List.drop_length]
        obtain ⟨⟨i1, i2, i3, i4, i5⟩, i6, _⟩ := meld_ok n h' k _ b (by omega) (by omega) k100 (wf_top wl) wb
        have full := i6 (by omega) wl
        have hm : max h' k = h' := by omega
        rw [hm] at full
        have hkk : ∀ r ∈ ks.take (ks.length - 1) ++ meldF n (ks.getD (ks.length - 1) .nil) b, Wf h' false r := fun r hr => by
          rcases List.mem_append.1 hr with hr | hr
          · exact w6 r (List.mem_of_mem_take hr)
          · exact full r hr
        have hlen : (ks.take (ks.length - 1) ++ meldF n (ks.getD (ks.length - 1) .nil) b).length = ks.length - 1 + (meldF n (ks.getD (ks.length - 1) .nil) b).length := by
          rw [List.length_append, List.length_take]; omega
        obtain ⟨r1, r2⟩ := raise_ok w1 (by omega) (by omega) (by omega) hkk
        have hm2 : max (h' + 1) k = h' + 1 := by omega
        rw [hm2]
        have eit : (ks.take (ks.length - 1) ++ meldF n (ks.getD (ks.length - 1) .nil) b).flatMap items = items (.inner ks bx) ++ items b := by
          rw [List.flatMap_append, i3, items_inner wa' (by omega)]
          conv => rhs; rw [hsplit]
          rw [List.flatMap_append]
          simp
        rw [eit] at r1
        exact ⟨r1, fun _ wf => r2 (by
          have := wf.2.1
          simp at this
          omega), fun hle _ => by omega⟩
    · rw [if_neg h1]
      by_cases h2 : (h : Int) < (k : Int)
      · rw [if_pos h2]
        obtain ⟨k', rfl⟩ : ∃ k', k = k' + 1 := ⟨k - 1, by omega⟩
        cases b with
        | nil => exact absurd rfl nb
        | leaf b => have := wb.1; omega
        | inner ks bx =>
          have wb' := wb
          obtain ⟨w1, w2, w3, w4, w5, w6⟩ := wb
          simp only [if_true] at w2
          show OneTwo _ (raise (meldF n a (ks.getD 0 .nil) ++ ks.drop 1)) _ ∧ _
          have hl : 0 < ks.length := by omega
          have wl := w6 _ (getD_in .nil hl)
          have hsplit : ks = [ks.getD 0 .nil] ++ ks.drop 1 := by
            have := drop_cons (.nil : Nd) hl
            simpa using this
          obtain ⟨⟨i1, i2, i3, i4, i5⟩, _, i6⟩ := meld_ok n h k' a _ (by omega) h100 (by omega) wa (wf_top wl)
          have full := i6 (by omega) wl
          have hm : max h k' = k' := by omega
          rw [hm] at full
          have hkk : ∀ r ∈ meldF n a (ks.getD 0 .nil) ++ ks.drop 1, Wf k' false r := fun r hr => by
            rcases List.mem_append.1 hr with hr | hr
            · exact full r hr
            · exact w6 r (List.mem_of_mem_drop hr)
          have hlen : (meldF n a (ks.getD 0 .nil) ++ ks.drop 1).length = (meldF n a (ks.getD 0 .nil)).length + (ks.length - 1) := by
            rw [List.length_append, List.length_drop]
          obtain ⟨r1, r2⟩ := raise_ok w1 (by omega) (by omega) (by omega) hkk
          have hm2 : max h (k' + 1) = k' + 1 := by omega
          rw [hm2]
          have eit : (meldF n a (ks.getD 0 .nil) ++ ks.drop 1).flatMap items = items a ++ items (.inner ks bx) := by
            rw [List.flatMap_append, i3, items_inner wb' (by omega)]
            conv => rhs; rw [hsplit]
            rw [List.flatMap_append]
            simp
          rw [eit] at r1
          exact ⟨r1, fun hle _ => by omega, fun _ wf => r2 (by
            have := wf.2.1
            simp at this
            omega)⟩
      · rw [if_neg h2]
        have hk : h = k := by omega
        subst hk
        have hm : max h h = h := by omega
        rw [hm]
        obtain ⟨h', rfl⟩ : ∃ h', h = h' + 1 := ⟨h - 1, by omega⟩
        cases a with
        | nil => exact absurd rfl na
        | leaf a =>
          have h0 := wa.1
          subst h0
          cases b with
          | nil => exact absurd rfl nb
          | inner ks bx => exact absurd wb.1 (by decide)
          | leaf b =>
            rw [if_pos (show (NT.asLeaf (NT.leaf a : Nd)).isSome = true from rfl)]
            show OneTwo 1 (spread (a.1 ++ b.1)) (a.1 ++ b.1) ∧ _
            obtain ⟨_, a2, a3, _⟩ := wa
            obtain ⟨_, b2, b3, _⟩ := wb
            simp only [if_true] at a2 b2
            obtain ⟨s1, s2⟩ := spread_ok (l := a.1 ++ b.1) (by rw [List.length_append]; omega) (by rw [List.length_append]; omega)
            refine ⟨s1, fun _ wf => s2 ?_, fun _ wf => s2 ?_⟩
            · have := wf.2.1
              simp at this
              rw [List.length_append]; omega
            · have := wf.2.1
              simp at this
              rw [List.length_append]; omega
        | inner ks bx =>
          cases b with
          | nil => exact absurd rfl nb
          | leaf b => have := wb.1; have := wa.1; omega
          | inner ls by_ =>
            rw [if_neg (show ¬ (NT.asLeaf (NT.inner ks bx : Nd)).isSome = true from fun hh => by cases hh)]
            show OneTwo (h' + 1) (raise (ks ++ ls)) _ ∧ _
            have wa' := wa
            have wb' := wb
            obtain ⟨w1, w2, w3, w4, w5, w6⟩ := wa
            obtain ⟨v1, v2, v3, v4, v5, v6⟩ := wb
            simp only [if_true] at w2 v2
            obtain ⟨r1, r2⟩ := raise_ok (ks := ks ++ ls) w1 (by omega) (by rw [List.length_append]; omega) (by rw [List.length_append]; omega) fun k hk => by
              rcases List.mem_append.1 hk with hk | hk
              · exact w6 k hk
              · exact v6 k hk
            rw [List.flatMap_append, ← items_inner wa' (by omega), ← items_inner wb' (by omega)] at r1
            have f := r2 (by rw [List.length_append]; omega)
            exact ⟨r1, fun _ _ => f, fun _ _ => f⟩
theorem count_full : (h : Nat) → (n : Nd) → h ≤ 100 → Wf h false n → 4 ^ h ≤ (items n).length
  | 0, _, _, e => e.elim
  | _ + 1, .nil, _, e => e.elim
  | h + 1, .leaf a, _, e => by
    have := e.1
    subst this
    have := e.2.1
    simp at this
    exact this
  | h + 1, .inner ks b, hh, e => by
    have e' := e
    obtain ⟨w1, w2, w3, w4, w5, w6⟩ := e
    simp at w2
    rw [items_inner e' (by omega)]
    have : ∀ l : List Nd, (∀ k ∈ l, Wf h false k) → l.length * 4 ^ h ≤ (l.flatMap items).length := by
      intro l
      induction l with
      | nil => intro _; simp
      | cons k r ih =>
        intro hk
        have h1 := count_full h k (by omega) (hk k (List.mem_cons_self ..))
        have h2 := ih fun k' hk' => hk k' (List.mem_cons_of_mem _ hk')
        simp only [List.flatMap_cons, List.length_append, List.length_cons, Nat.succ_mul]
        omega
    have h3 := this ks w6
    have h4 : 4 * 4 ^ h ≤ ks.length * 4 ^ h := Nat.mul_le_mul_right _ w2
    rw [Nat.pow_succ]
    omega
theorem count_top {h : Nat} {n : Nd} (hh : h ≤ 100) (e : Wf h true n) : 1 ≤ (items n).length ∧ (2 ≤ h → 2 * 4 ^ (h - 1) ≤ (items n).length) := by
  cases h with
  | zero => exact e.elim
  | succ h =>
    cases n with
    | nil => exact e.elim
    | leaf a =>
      have := e.1
      subst this
      have := e.2.1
      simp at this
      exact ⟨this, fun h => by omega⟩
    | inner ks b =>
      have e' := e
      obtain ⟨w1, w2, w3, w4, w5, w6⟩ := e
      simp at w2
      have : ∀ l : List Nd, (∀ k ∈ l, Wf h false k) → l.length * 4 ^ h ≤ (l.flatMap items).length := by
        intro l
        induction l with
        | nil => intro _; simp
        | cons k r ih =>
          intro hk
          have h1 := count_full h k (by omega) (hk k (List.mem_cons_self ..))
          have h2 := ih fun k' hk' => hk k' (List.mem_cons_of_mem _ hk')
          simp only [List.flatMap_cons, List.length_append, List.length_cons, Nat.succ_mul]
          omega
      have h3 := this ks w6
      have h4 : 2 * 4 ^ h ≤ ks.length * 4 ^ h := Nat.mul_le_mul_right _ w2
      have h5 : 0 < 4 ^ h := Nat.pow_pos (by omega)
      rw [items_inner e' (by omega)]
      exact ⟨by omega, fun _ => by rw [Nat.add_sub_cancel]; omega⟩
theorem not_high {h : Nat} {n : Nd} (hh : h ≤ 101) (e : Wf h true n) (hc : (itemsF 200 n).length ≤ 1000000) : h ≤ 100 := by
  by_cases h1 : h ≤ 100
  · exact h1
  · exfalso
    have : h = 101 := by omega
    subst this
    cases n with
    | nil => exact e.elim
    | leaf a => exact absurd e.1 (by decide)
    | inner ks b =>
      obtain ⟨w1, w2, w3, w4, w5, w6⟩ := e
      simp at w2
      have hk0 := w6 _ (getD_in .nil (show 0 < ks.length by omega))
      have c := count_full 100 _ (Nat.le_refl _) hk0
      have e0 : items (ks.getD 0 .nil) = itemsF 199 (ks.getD 0 .nil) := (items_def _).trans (itemsF_eq 100 false _ 101 199 hk0 (by omega) (by omega))
      have hs : ks = [ks.getD 0 .nil] ++ ks.drop 1 := by
        have := drop_cons (.nil : Nd) (show 0 < ks.length by omega)
        simpa using this
      have : (itemsF 199 (ks.getD 0 .nil)).length ≤ (itemsF 200 (.inner ks b)).length := by
        rw [itemsF_of (k := 199) (by decide)]
        conv => rhs; rw [hs]
        rw [List.flatMap_append, List.length_append]
        simp
      rw [e0] at c
      have big : (1000000 : Nat) < 4 ^ 100 := by decide
      omega
theorem isNil_t {n : Nd} : NT.isNil n = true ↔ n = .nil := by
  cases n <;> simp [NT.isNil]
theorem isNil_f {n : Nd} : NT.isNil n = false ↔ n ≠ .nil := by
  cases n <;> simp [NT.isNil]
theorem join_ok {a b : Nd} (ha : WfN a) (hb : WfN b) (hc : (items a).length + (items b).length ≤ 1000000) : WfN (join a b) ∧ items (join a b) = items a ++ items b := by
  unfold join
  rcases ha with rfl | ⟨h, h1, wa⟩
  · rw [if_pos (show NT.isNil (NT.nil : Nd) = true from rfl)]
    exact ⟨hb, by rw [items_nil, List.nil_append]⟩
  rw [if_neg (by rw [isNil_t]; exact (wf_height wa).2.2)]
  rcases hb with rfl | ⟨k, k1, wb⟩
  · rw [if_pos (show NT.isNil (NT.nil : Nd) = true from rfl)]
    exact ⟨.inr ⟨h, h1, wa⟩, by rw [items_nil, List.append_nil]⟩
  rw [if_neg (by rw [isNil_t]; exact (wf_height wb).2.2)]
  have em : meld a b = meldF (h + k) a b := by
    unfold meld
    rw [(wf_height wa).1, (wf_height wb).1]
    rfl
  rw [em]
  obtain ⟨⟨m1, m2, m3, m4, m5⟩, _, _⟩ := meld_ok (h + k) h k a b (Nat.le_refl _) h1 k1 wa wb
  generalize meldF (h + k) a b = L at m1 m2 m3 m4 m5 ⊢
  by_cases hl : L.length = 1
  · rw [if_pos hl]
    have hL : L = [L.getD 0 .nil] := by
      match L, hl with
      | [x], _ => rfl
    refine ⟨.inr ⟨max h k, by omega, m4 _ (getD_in (NT.nil : Nd) (show 0 < L.length by omega))⟩, ?_⟩
    rw [← m3]
    conv => rhs; rw [hL]
    simp
  · rw [if_neg hl]
    have hl2 : L.length = 2 := by omega
    have w : Wf (max h k + 1) true (mkInner L) := wf_inner (by have := (wf_height wa).2.1; omega) (by omega) (by simp; omega) (by omega) (m5 hl2)
    have ei : itemsF 200 (mkInner L) = items a ++ items b := by
      rw [← m3]
      exact (itemsF_of (k := 199) (by decide) L _).trans (flat_congr fun r hr => (itemsF_eq _ true r 199 101 (m4 r hr) (by omega) (by omega)).trans (items_def r).symm)
    have hh := not_high (by omega) w (by rw [ei, List.length_append]; omega)
    refine ⟨.inr ⟨_, hh, w⟩, ?_⟩
    exact (items_def _).trans ((itemsF_eq _ true _ 101 200 w (by omega) (by omega)).trans ei)
theorem build_ok (l : List Itm) (hl : l.length ≤ 100000) : (k : Nat) → 8 * k ≤ l.length + 7 → WfN (build l k) ∧ items (build l k) = l.take (8 * k)
  | 0, _ => ⟨.inl rfl, by simp [build, items_nil]⟩
  | k + 1, hk => by
    obtain ⟨h1, h2⟩ := build_ok l hl k (by omega)
    have hc : 1 ≤ ((l.drop (8 * k)).take 8).length ∧ ((l.drop (8 * k)).take 8).length ≤ 8 := by
      rw [List.length_take, List.length_drop]; omega
    have w : WfN (mkLeaf ((l.drop (8 * k)).take 8)) := .inr ⟨1, by omega, wf_leaf (by simpa using hc.1) hc.2⟩
    have hi : items (mkLeaf ((l.drop (8 * k)).take 8)) = (l.drop (8 * k)).take 8 := rfl
    obtain ⟨j1, j2⟩ := join_ok h1 w (by rw [h2, hi, List.length_take]; omega)
    refine ⟨j1, ?_⟩
    show items (join (build l k) _) = _
    rw [j2, h2, hi, show 8 * (k + 1) = 8 * k + 8 by omega, List.take_add]
theorem buildT_ok {l : List Itm} (hl : l.length ≤ 100000) : WfN (buildT l) ∧ items (buildT l) = l := by
  obtain ⟨h1, h2⟩ := build_ok l hl ((l.length + 7) / 8) (by omega)
  refine ⟨h1, h2.trans (List.take_of_length_le (by omega))⟩
end Go.Fr.Z14
namespace Go.Fr.Z14
open Go Go.Fr Go.Proofs
theorem getD_app_l {α : Type} {a b : List α} {i : Nat} (d : α) (h : i < a.length) : (a ++ b).getD i d = a.getD i d := by
  rw [List.getD_eq_getElem?_getD, List.getD_eq_getElem?_getD, List.getElem?_append_left h]
theorem getD_app_r {α : Type} {a b : List α} {i : Nat} (d : α) (h : a.length ≤ i) : (a ++ b).getD i d = b.getD (i - a.length) d := by
  rw [List.getD_eq_getElem?_getD, List.getD_eq_getElem?_getD, List.getElem?_append_right h]
theorem w64_id {n : Int} (h0 : -9223372036854775808 ≤ n) (h1 : n ≤ 9223372036854775807) : w64 n = n := wrap_id h0 h1
abbrev d0 (i : Itm) : Int := i.2.2.1.1
abbrev d1 (i : Itm) : Int := i.2.2.1.2.1
def Fine (l : List Itm) : Prop := ∀ i ∈ l, 0 ≤ d0 i ∧ d0 i ≤ 1099511627776 ∧ 0 ≤ d1 i ∧ d1 i ≤ 1099511627776
theorem fine_cons {i : Itm} {l : List Itm} (h : Fine (i :: l)) : (0 ≤ d0 i ∧ d0 i ≤ 1099511627776 ∧ 0 ≤ d1 i ∧ d1 i ≤ 1099511627776) ∧ Fine l :=
  ⟨h i (List.mem_cons_self ..), fun j hj => h j (List.mem_cons_of_mem _ hj)⟩
theorem fine_append {l m : List Itm} : Fine (l ++ m) ↔ Fine l ∧ Fine m := by
  unfold Fine
  constructor
  · intro h
    exact ⟨fun i hi => h i (List.mem_append_left _ hi), fun i hi => h i (List.mem_append_right _ hi)⟩
  · rintro ⟨h1, h2⟩ i hi
    rcases List.mem_append.1 hi with hi | hi
    · exact h1 i hi
    · exact h2 i hi
def sum0 (l : List Itm) : Int := (l.map d0).sum
def sum1 (l : List Itm) : Int := (l.map d1).sum
theorem sum0_cons (i : Itm) (l : List Itm) : sum0 (i :: l) = d0 i + sum0 l := by simp [sum0]
theorem sum1_cons (i : Itm) (l : List Itm) : sum1 (i :: l) = d1 i + sum1 l := by simp [sum1]
theorem sum0_append (l m : List Itm) : sum0 (l ++ m) = sum0 l + sum0 m := by simp [sum0]
theorem sum1_append (l m : List Itm) : sum1 (l ++ m) = sum1 l + sum1 m := by simp [sum1]
theorem sums_fine : {l : List Itm} → Fine l → 0 ≤ sum0 l ∧ sum0 l ≤ 1099511627776 * (l.length : Int) ∧ 0 ≤ sum1 l ∧ sum1 l ≤ 1099511627776 * (l.length : Int)
  | [], _ => by simp [sum0, sum1]
  | i :: l, h => by
    obtain ⟨h1, h2⟩ := fine_cons h
    have := sums_fine h2
    rw [sum0_cons, sum1_cons, List.length_cons]
    omega
def Is (s : Sm) (k b c : Int) : Prop := s.1 = k ∧ s.2.1.1 = b ∧ s.2.1.2.1 = c
theorem addS_is {s t : Sm} {k b c k' b' c' : Int} (h : Is s k b c) (g : Is t k' b' c') (h0 : 0 ≤ k) (h1 : 0 ≤ b) (h2 : 0 ≤ c) (g0 : 0 ≤ k') (g1 : 0 ≤ b') (g2 : 0 ≤ c')
    (e0 : k + k' ≤ 9223372036854775807) (e1 : b + b' ≤ 9223372036854775807) (e2 : c + c' ≤ 9223372036854775807) : Is (addS s t) (k + k') (b + b') (c + c') := by
  obtain ⟨rfl, rfl, rfl⟩ := h
  obtain ⟨rfl, rfl, rfl⟩ := g
  unfold addS
  split
  · exact ⟨w64_id (by omega) e0, w64_id (by omega) e1, w64_id (by omega) e2⟩
  · exact ⟨w64_id (by omega) e0, w64_id (by omega) e1, w64_id (by omega) e2⟩
theorem is_z : Is zS 0 0 0 := ⟨rfl, rfl, rfl⟩
theorem is_of (i : Itm) : Is (ofI i) 1 (d0 i) (d1 i) := ⟨rfl, rfl, rfl⟩
theorem fold_is : (l : List Itm) → (s : Sm) → (k b c : Int) → Fine l → Is s k b c → 0 ≤ k → 0 ≤ b → 0 ≤ c → k + (l.length : Int) ≤ 1000000 → b + 1099511627776 * (l.length : Int) ≤ 9223372036854775807 → c + 1099511627776 * (l.length : Int) ≤ 9223372036854775807 →
    Is (l.foldl (fun s x => addS s (ofI x)) s) (k + (l.length : Int)) (b + sum0 l) (c + sum1 l)
  | [], s, k, b, c, _, h, _, _, _, _, _, _ => by simpa [sum0, sum1] using h
  | i :: l, s, k, b, c, hf, h, h0, h1, h2, e0, e1, e2 => by
    obtain ⟨f1, f2⟩ := fine_cons hf
    rw [List.length_cons] at e0 e1 e2 ⊢
    have a := addS_is h (is_of i) h0 h1 h2 (by omega) f1.1 f1.2.2.1 (by omega) (by omega) (by omega)
    have ih := fold_is l _ _ _ _ f2 a (by omega) (by omega) (by omega) (by omega) (by omega) (by omega)
    rw [sum0_cons, sum1_cons]
    have q0 : k + ((l.length + 1 : Nat) : Int) = k + 1 + (l.length : Int) := by omega
    have q1 : b + (d0 i + sum0 l) = b + d0 i + sum0 l := by omega
    have q2 : c + (d1 i + sum1 l) = c + d1 i + sum1 l := by omega
    rw [q0, q1, q2]
    exact ih
theorem allS_is {l : List Itm} (hf : Fine l) (hl : l.length ≤ 100000) : Is (allS l) (l.length : Int) (sum0 l) (sum1 l) := by
  have := fold_is l zS 0 0 0 hf is_z (by omega) (by omega) (by omega) (by omega) (by omega) (by omega)
  simpa [allS] using this
def findC (dim v bias : Int) : List Itm → Int → Int → Int → Int × Int × Int
  | [], k, b, c => (k, b, c)
  | i :: r, k, b, c => if reach v bias (if dim = 0 then b + d0 i else c + d1 i) = true then (k, b, c) else findC dim v bias r (k + 1) (b + d0 i) (c + d1 i)
theorem size_is {s : Sm} {k b c dim : Int} (h : Is s k b c) (hd : dim = 0 ∨ dim = 1) : sizeD s dim = if dim = 0 then b else c := by
  obtain ⟨rfl, rfl, rfl⟩ := h
  unfold sizeD
  rcases hd with rfl | rfl <;> rfl
theorem findL_is {dim v bias : Int} (hd : dim = 0 ∨ dim = 1) : (l : List Itm) → (s : Sm) → (k b c : Int) → Fine l → Is s k b c → 0 ≤ k → 0 ≤ b → 0 ≤ c → k + (l.length : Int) ≤ 1000000 → b + 1099511627776 * (l.length : Int) ≤ 9223372036854775807 → c + 1099511627776 * (l.length : Int) ≤ 9223372036854775807 →
    Is (findL dim v bias l s) (findC dim v bias l k b c).1 (findC dim v bias l k b c).2.1 (findC dim v bias l k b c).2.2
  | [], s, k, b, c, _, h, _, _, _, _, _, _ => h
  | i :: l, s, k, b, c, hf, h, h0, h1, h2, e0, e1, e2 => by
    obtain ⟨f1, f2⟩ := fine_cons hf
    rw [List.length_cons] at e0 e1 e2
    have a := addS_is h (is_of i) h0 h1 h2 (by omega) f1.1 f1.2.2.1 (by omega) (by omega) (by omega)
    have ih := findL_is (v := v) (bias := bias) hd l _ _ _ _ f2 a (by omega) (by omega) (by omega) (by omega) (by omega) (by omega)
    unfold findL findC
    rw [size_is a hd]
    cases hr : reach v bias (if dim = 0 then b + d0 i else c + d1 i) with
    | true => exact h
    | false => exact ih
theorem reach_mono {v bias e e' : Int} (h : e ≤ e') (hr : reach v bias e = true) : reach v bias e' = true := by
  unfold reach at hr ⊢
  simp at hr ⊢
  omega
theorem at_dim {dim b c b' c' : Int} (hb : b ≤ b') (hc : c ≤ c') : (if dim = 0 then b else c) ≤ (if dim = 0 then b' else c') := by
  split
  · exact hb
  · exact hc
theorem findC_pass {dim v bias : Int} : (l m : List Itm) → (k b c : Int) → Fine l → reach v bias (if dim = 0 then b + sum0 l else c + sum1 l) = false →
    findC dim v bias (l ++ m) k b c = findC dim v bias m (k + (l.length : Int)) (b + sum0 l) (c + sum1 l)
  | [], m, k, b, c, _, _ => by simp [sum0, sum1]
  | i :: l, m, k, b, c, hf, h => by
    obtain ⟨f1, f2⟩ := fine_cons hf
    have g := sums_fine f2
    rw [sum0_cons, sum1_cons] at h ⊢
    have hn : reach v bias (if dim = 0 then b + d0 i else c + d1 i) = false := by
      cases hr : reach v bias (if dim = 0 then b + d0 i else c + d1 i) with
      | false => rfl
      | true => rw [reach_mono (at_dim (by omega) (by omega)) hr] at h; cases h
    rw [List.cons_append]
    show (if _ then _ else _) = _
    rw [hn, if_neg (by decide)]
    have ih := findC_pass l m (k + 1) (b + d0 i) (c + d1 i) f2 (by rw [Int.add_assoc, Int.add_assoc]; exact h)
    rw [ih, List.length_cons]
    have q0 : k + 1 + (l.length : Int) = k + ((l.length + 1 : Nat) : Int) := by omega
    rw [q0, Int.add_assoc, Int.add_assoc]
theorem findC_in {dim v bias : Int} : (l m : List Itm) → (k b c : Int) → l ≠ [] → reach v bias (if dim = 0 then b + sum0 l else c + sum1 l) = true →
    findC dim v bias (l ++ m) k b c = findC dim v bias l k b c
  | [], m, k, b, c, hne, _ => absurd rfl hne
  | i :: l, m, k, b, c, _, h => by
    rw [sum0_cons, sum1_cons] at h
    rw [List.cons_append]
    show (if _ then _ else _) = (if _ then _ else _)
    cases hr : reach v bias (if dim = 0 then b + d0 i else c + d1 i) with
    | true => rfl
    | false =>
      rw [if_neg (by decide), if_neg (by decide)]
      by_cases hl : l = []
      · subst hl
        rw [show sum0 [] = 0 from rfl, show sum1 [] = 0 from rfl, Int.add_zero, Int.add_zero, hr] at h
        cases h
      · exact findC_in l m _ _ _ hl (by rw [Int.add_assoc, Int.add_assoc]; exact h)
def okPiece (i : Itm) : Prop := (i.2.1 = 0 ∧ d0 i = d1 i ∧ 1 ≤ d1 i ∧ d1 i ≤ 1099511627776) ∨ (1 ≤ i.2.1 ∧ d0 i = 0 ∧ 1 ≤ d1 i ∧ d1 i ≤ 1099511627776)
def Rowly : Int → List Itm → Prop
  | _, [] => True
  | p, i :: r => okPiece i ∧ i.2.1 ≠ p ∧ Rowly i.2.1 r
theorem rowly_fine : {p : Int} → {l : List Itm} → Rowly p l → Fine l
  | _, [], _ => fun i hi => by cases hi
  | _, i :: l, h => by
    have ih := rowly_fine h.2.2
    intro j hj
    rcases List.mem_cons.1 hj with e | hj
    · subst e
      rcases h.1 with h | h <;> omega
    · exact ih j hj
theorem rowly_all : {p : Int} → {l : List Itm} → Rowly p l → ∀ i ∈ l, okPiece i
  | _, [], _ => fun i hi => by cases hi
  | _, i :: l, h => by
    have ih := rowly_all h.2.2
    intro j hj
    rcases List.mem_cons.1 hj with e | hj
    · subst e; exact h.1
    · exact ih j hj
def runB (b : Int) : Nat → List Spt
  | 0 => []
  | k + 1 => (b, 0, ()) :: runB (b + 1) k
def expand (b : Int) : List Itm → List Spt
  | [] => []
  | i :: r => (if i.2.1 = 0 then runB b (d1 i).toNat else List.replicate (d1 i).toNat (b, i.2.1, ())) ++ expand (b + d0 i) r
theorem runB_len (b : Int) (k : Nat) : (runB b k).length = k := by
  induction k generalizing b with
  | zero => rfl
  | succ k ih => simp [runB, ih]
theorem runB_get (b : Int) (k j : Nat) (h : j < k) (d : Spt) : (runB b k).getD j d = (b + (j : Int), 0, ()) := by
  induction k generalizing b j with
  | zero => omega
  | succ k ih =>
    cases j with
    | zero => simp [runB]
    | succ j =>
      show (runB (b + 1) k).getD j d = _
      rw [ih (b + 1) j (by omega)]
      congr 1
      omega
def runes (b : Int) (i : Itm) : List Spt := if i.2.1 = 0 then runB b (d1 i).toNat else List.replicate (d1 i).toNat (b, i.2.1, ())
theorem runes_len (b : Int) (i : Itm) : (runes b i).length = (d1 i).toNat := by
  unfold runes
  split
  · exact runB_len _ _
  · exact List.length_replicate
theorem runes_id (b : Int) (i : Itm) : ∀ x ∈ runes b i, x.2.1 = i.2.1 := by
  unfold runes
  split
  · rename_i h
    rw [h]
    generalize (d1 i).toNat = k
    induction k generalizing b with
    | zero => intro x hx; cases hx
    | succ k ih =>
      intro x hx
      rcases List.mem_cons.1 hx with e | hx
      · subst e; rfl
      · exact ih (b + 1) x hx
  · intro x hx
    rw [(List.mem_replicate.1 hx).2]
theorem runes_get (b : Int) (i : Itm) (j : Nat) (h : j < (d1 i).toNat) (d : Spt) : (runes b i).getD j d = (if i.2.1 = 0 then b + (j : Int) else b, i.2.1, ()) := by
  unfold runes
  by_cases h0 : i.2.1 = 0
  · rw [if_pos h0, if_pos h0, runB_get b _ j h, h0]
  · rw [if_neg h0, if_neg h0]
    rw [List.getD_eq_getElem?_getD, List.getElem?_replicate, if_pos h]
    rfl
theorem expand_cons (b : Int) (i : Itm) (r : List Itm) : expand b (i :: r) = runes b i ++ expand (b + d0 i) r := rfl
theorem expand_len : {p : Int} → {l : List Itm} → (b : Int) → Rowly p l → ((expand b l).length : Int) = sum1 l
  | _, [], _, _ => rfl
  | _, i :: l, b, h => by
    have ih := expand_len (b + d0 i) h.2.2
    rw [expand_cons, List.length_append, runes_len, sum1_cons]
    have : 1 ≤ d1 i := by rcases h.1 with h | h <;> omega
    omega
theorem snoc_get {α : Type} (l : List α) (x d : α) : (l ++ [x]).getD ((l ++ [x]).length - 1) d = x := by simp
theorem snoc_set {α : Type} (l : List α) (x y : α) : (l ++ [x]).set ((l ++ [x]).length - 1) y = l ++ [y] := by
  rw [List.length_append, List.length_singleton, Nat.add_sub_cancel, List.set_append_right _ _ (Nat.le_refl _), Nat.sub_self]
  rfl
theorem step_same {out : List Pce} {j c : Int} {x : Spt} (h : x.2.1 = j) (h0 : 0 ≤ c) (h1 : c ≤ 9000000000000000000) : pceStep (out ++ [(j, c, ())]) x = out ++ [(j, c + 1, ())] := by
  unfold pceStep
  rw [snoc_get, if_pos ⟨by simp, h.symm⟩, snoc_set]
  rw [w64_id (by show -9223372036854775808 ≤ c + 1; omega) (by show c + 1 ≤ 9223372036854775807; omega)]
theorem run_on : (L : List Spt) → (out : List Pce) → (j c : Int) → (∀ x ∈ L, x.2.1 = j) → 0 ≤ c → c + (L.length : Int) ≤ 9000000000000000000 → L.foldl pceStep (out ++ [(j, c, ())]) = out ++ [(j, c + (L.length : Int), ())]
  | [], _, _, _, _, _, _ => by simp
  | x :: L, out, j, c, h, h0, h1 => by
    rw [List.length_cons] at h1 ⊢
    rw [List.foldl_cons, step_same (h x (List.mem_cons_self ..)) h0 (by omega), run_on L out j (c + 1) (fun y hy => h y (List.mem_cons_of_mem _ hy)) (by omega) (by omega)]
    have : c + 1 + (L.length : Int) = c + ((L.length + 1 : Nat) : Int) := by omega
    rw [this]
def lastId (out : List Pce) : Int := if out = [] then -1 else (out.getD (out.length - 1) (0, 0, ())).1
theorem step_new {out : List Pce} {x : Spt} (h : lastId out ≠ x.2.1) : pceStep out x = out ++ [(x.2.1, 1, ())] := by
  unfold pceStep
  rw [if_neg]
  rintro ⟨h1, h2⟩
  unfold lastId at h
  rw [if_neg h1] at h
  exact h h2
theorem lastId_snoc (out : List Pce) (x : Pce) : lastId (out ++ [x]) = x.1 := by
  unfold lastId
  rw [if_neg (by simp), snoc_get]
theorem run_all {L : List Spt} {out : List Pce} {j : Int} (h : ∀ x ∈ L, x.2.1 = j) (hL : 1 ≤ L.length) (hb : L.length ≤ 1000000000000000000) (ho : lastId out ≠ j) : L.foldl pceStep out = out ++ [(j, (L.length : Int), ())] := by
  cases L with
  | nil => exact absurd hL (by decide)
  | cons x L =>
    have hx := h x (List.mem_cons_self ..)
    rw [List.length_cons] at hb ⊢
    rw [List.foldl_cons, step_new (by rw [hx]; exact ho), hx, run_on L out j 1 (fun y hy => h y (List.mem_cons_of_mem _ hy)) (by omega) (by omega)]
    have : 1 + (L.length : Int) = ((L.length + 1 : Nat) : Int) := by omega
    rw [this]
theorem pieces_fold : {p : Int} → {l : List Itm} → (b : Int) → (out : List Pce) → Rowly p l → lastId out = p → (expand b l).foldl pceStep out = out ++ l.map fun i => (i.2.1, d1 i, ())
  | _, [], _, out, _, _ => by simp [expand]
  | p, i :: l, b, out, h, hp => by
    have hd : 1 ≤ d1 i ∧ d1 i ≤ 1099511627776 := by rcases h.1 with h | h <;> omega
    rw [expand_cons, List.foldl_append, run_all (runes_id b i) (by rw [runes_len]; omega) (by rw [runes_len]; omega) (by rw [hp]; exact fun e => h.2.1 e.symm), runes_len]
    have e1 : (((d1 i).toNat : Nat) : Int) = d1 i := by omega
    rw [e1, pieces_fold (b + d0 i) _ h.2.2 (lastId_snoc _ _), List.append_assoc]
    rfl
theorem in_spot : {p : Int} → {l : List Itm} → (k b c at_ : Int) → Rowly p l → c ≤ at_ → at_ < c + sum1 l →
    ∃ j : Nat, j < l.length ∧ (findC 1 at_ 1 l k b c).1 = k + (j : Int) ∧ (findC 1 at_ 1 l k b c).2.2 ≤ at_ ∧ c ≤ (findC 1 at_ 1 l k b c).2.2 ∧
      (expand b l).getD (at_ - c).toNat (0, 0, ()) = (if (l.getD j zItm).2.1 = 0 then (findC 1 at_ 1 l k b c).2.1 + (at_ - (findC 1 at_ 1 l k b c).2.2) else (findC 1 at_ 1 l k b c).2.1, (l.getD j zItm).2.1, ()) ∧
      ((findC 1 at_ 1 l k b c).2.2 < at_ → ((expand b l).getD (at_ - c - 1).toNat (0, 0, ())).2.1 = (l.getD j zItm).2.1) ∧
      ((findC 1 at_ 1 l k b c).2.2 = at_ → c < at_ → ((expand b l).getD (at_ - c - 1).toNat (0, 0, ())).2.1 ≠ (l.getD j zItm).2.1) ∧
      ((findC 1 at_ 1 l k b c).2.2 = at_ → c = at_ → (l.getD j zItm).2.1 ≠ p)
  | _, [], k, b, c, at_, _, h0, h1 => by
    rw [show sum1 [] = 0 from rfl] at h1
    omega
  | p, i :: l, k, b, c, at_, h, h0, h1 => by
    have hd : 1 ≤ d1 i ∧ d1 i ≤ 1099511627776 := by rcases h.1 with h | h <;> omega
    rw [sum1_cons] at h1
    have e : findC 1 at_ 1 (i :: l) k b c = if reach at_ 1 (c + d1 i) = true then (k, b, c) else findC 1 at_ 1 l (k + 1) (b + d0 i) (c + d1 i) := rfl
    rw [e, expand_cons]
    have rl := runes_len b i
    by_cases hr : at_ < c + d1 i
    · have hr' : reach at_ 1 (c + d1 i) = true := by unfold reach; simp; omega
      rw [if_pos hr']
      have g : ∀ j : Nat, j < (d1 i).toNat → (runes b i ++ expand (b + d0 i) l).getD j (0, 0, ()) = (if i.2.1 = 0 then b + (j : Int) else b, i.2.1, ()) := fun j hj => by
        rw [getD_app_l _ (by rw [rl]; exact hj), runes_get b i j hj]
      refine ⟨0, by simp, by simp, h0, Int.le_refl _, ?_, fun hlt => ?_, fun _ hc => ?_, fun _ _ => h.2.1⟩
      · rw [g _ (by omega)]
        show _ = (if i.2.1 = 0 then b + (at_ - c) else b, i.2.1, ())
        have : (((at_ - c).toNat : Nat) : Int) = at_ - c := by omega
        rw [this]
      · have hlt : c < at_ := hlt
        rw [g _ (by omega)]
        rfl
      · have := ‹c = at_›
        omega
    · have hr' : ¬ reach at_ 1 (c + d1 i) = true := by unfold reach; simp; omega
      rw [if_neg hr']
      obtain ⟨j, i1, i2, i3, i4, i5, i6, i7, i8⟩ := in_spot (k + 1) (b + d0 i) (c + d1 i) at_ h.2.2 (by omega) (by omega)
      generalize findC 1 at_ 1 l (k + 1) (b + d0 i) (c + d1 i) = f at i2 i3 i4 i5 i6 i7 i8 ⊢
      have g : ∀ m : Int, c + d1 i ≤ m → (runes b i ++ expand (b + d0 i) l).getD (m - c).toNat (0, 0, ()) = (expand (b + d0 i) l).getD (m - (c + d1 i)).toNat (0, 0, ()) := fun m hm => by
        rw [getD_app_r _ (by rw [rl]; omega), rl]
        congr 1
        omega
      have g1 : at_ - c - 1 = (at_ - 1) - c := by omega
      have g2 : at_ - (c + d1 i) - 1 = (at_ - 1) - (c + d1 i) := by omega
      refine ⟨j + 1, by simp; omega, by rw [i2]; omega, i3, by omega, ?_, fun hlt => ?_, fun he hc => ?_, fun he hc => by omega⟩
      · rw [g _ (by omega)]
        exact i5
      · have i6 := i6 hlt
        rw [g1, g _ (by omega), ← g2]
        exact i6
      · by_cases hb : c + d1 i < at_
        · have i7 := i7 he hb
          rw [g1, g _ (by omega), ← g2]
          exact i7
        · have hb : c + d1 i = at_ := by omega
          have i8 := i8 he hb
          rw [getD_app_l _ (by rw [rl]; omega), runes_get b i _ (by omega)]
          exact fun hh => i8 hh.symm
theorem find_all {dim v bias : Int} {l : List Itm} {k b c : Int} (hf : Fine l) (h : reach v bias (if dim = 0 then b + sum0 l else c + sum1 l) = false) : findC dim v bias l k b c = (k + (l.length : Int), b + sum0 l, c + sum1 l) := by
  have := findC_pass (dim := dim) (v := v) (bias := bias) l [] k b c hf h
  rw [List.append_nil] at this
  rw [this]
  rfl
end Go.Fr.Z14
namespace Go.Fr.Z14
open Go Go.Fr Go.Proofs
def SumOk (n : Nd) : Prop := Is (sumOf n) ((items n).length : Int) (sum0 (items n)) (sum1 (items n))
theorem flat_cons (k : Nd) (r : List Nd) : (k :: r).flatMap items = items k ++ r.flatMap items := rfl
theorem kids_fold : (ks : List Nd) → (s : Sm) → (k b c : Int) → (∀ x ∈ ks, SumOk x) → Fine (ks.flatMap items) → Is s k b c → 0 ≤ k → 0 ≤ b → 0 ≤ c → k + ((ks.flatMap items).length : Int) ≤ 1000000 → b + 1099511627776 * ((ks.flatMap items).length : Int) ≤ 9223372036854775807 → c + 1099511627776 * ((ks.flatMap items).length : Int) ≤ 9223372036854775807 →
    Is (ks.foldl (fun s k => addS s (sumOf k)) s) (k + ((ks.flatMap items).length : Int)) (b + sum0 (ks.flatMap items)) (c + sum1 (ks.flatMap items))
  | [], s, k, b, c, _, _, h, _, _, _, _, _, _ => by simpa [sum0, sum1] using h
  | x :: r, s, k, b, c, hs, hf, h, h0, h1, h2, e0, e1, e2 => by
    rw [flat_cons] at hf e0 e1 e2 ⊢
    obtain ⟨f1, f2⟩ := fine_append.1 hf
    have b1 := sums_fine f1
    have b2 := sums_fine f2
    rw [List.length_append] at e0 e1 e2 ⊢
    rw [sum0_append, sum1_append]
    have a := addS_is h (hs x (List.mem_cons_self ..)) h0 h1 h2 (by omega) (by omega) (by omega) (by omega) (by omega) (by omega)
    have ih := kids_fold r _ _ _ _ (fun y hy => hs y (List.mem_cons_of_mem _ hy)) f2 a (by omega) (by omega) (by omega) (by omega) (by omega) (by omega)
    have q0 : k + (((items x).length + (r.flatMap items).length : Nat) : Int) = k + ((items x).length : Int) + ((r.flatMap items).length : Int) := by omega
    have q1 : b + (sum0 (items x) + sum0 (r.flatMap items)) = b + sum0 (items x) + sum0 (r.flatMap items) := by omega
    have q2 : c + (sum1 (items x) + sum1 (r.flatMap items)) = c + sum1 (items x) + sum1 (r.flatMap items) := by omega
    rw [q0, q1, q2]
    exact ih
theorem fine_mem {ks : List Nd} (h : Fine (ks.flatMap items)) {k : Nd} (hk : k ∈ ks) : Fine (items k) := fun i hi => h i (List.mem_flatMap.2 ⟨k, hk, hi⟩)
theorem len_mem {ks : List Nd} {k : Nd} (hk : k ∈ ks) : (items k).length ≤ (ks.flatMap items).length := by
  induction ks with
  | nil => cases hk
  | cons x r ih =>
    rw [flat_cons, List.length_append]
    rcases List.mem_cons.1 hk with e | hk
    · subst e; omega
    · have := ih hk; omega
theorem sum_wf : (h : Nat) → (top : Bool) → (n : Nd) → h ≤ 100 → Wf h top n → Fine (items n) → (items n).length ≤ 100000 → SumOk n
  | 0, _, _, _, e, _, _ => e.elim
  | _ + 1, _, .nil, _, e, _, _ => e.elim
  | h + 1, _, .leaf a, _, e, hf, hl => by
    have e4 : a.2.1 = allS a.1 := e.2.2.2
    show Is a.2.1 (a.1.length : Int) (sum0 a.1) (sum1 a.1)
    rw [e4]
    exact allS_is hf hl
  | h + 1, top, .inner ks b, hh, e, hf, hl => by
    have ei := items_inner e (by omega)
    obtain ⟨w1, w2, w3, w4, w5, w6⟩ := e
    unfold SumOk
    rw [ei] at hf hl ⊢
    show Is b.2.1 _ _ _
    rw [w5]
    have := kids_fold ks zS 0 0 0 (fun k hk => sum_wf h false k (by omega) (w6 k hk) (fine_mem hf hk) (Nat.le_trans (len_mem hk) hl)) hf is_z (by omega) (by omega) (by omega) (by omega) (by omega) (by omega)
    simpa [sums] using this
theorem findC_nil (dim v bias k b c : Int) : findC dim v bias [] k b c = (k, b, c) := rfl
theorem findK_is {dim v bias : Int} (hd : dim = 0 ∨ dim = 1) : (ks : List Nd) → (s : Sm) → (k b c : Int) → (∀ x ∈ ks, SumOk x) → (∀ x ∈ ks, items x ≠ []) → Fine (ks.flatMap items) → Is s k b c → 0 ≤ k → 0 ≤ b → 0 ≤ c → k + ((ks.flatMap items).length : Int) ≤ 1000000 → b + 1099511627776 * ((ks.flatMap items).length : Int) ≤ 9223372036854775807 → c + 1099511627776 * ((ks.flatMap items).length : Int) ≤ 9223372036854775807 →
    ((findK dim v bias ks s).2 = .nil ∧ Is (findK dim v bias ks s).1 (findC dim v bias (ks.flatMap items) k b c).1 (findC dim v bias (ks.flatMap items) k b c).2.1 (findC dim v bias (ks.flatMap items) k b c).2.2) ∨
    ((findK dim v bias ks s).2 ∈ ks ∧ ∃ k' b' c', Is (findK dim v bias ks s).1 k' b' c' ∧ findC dim v bias (ks.flatMap items) k b c = findC dim v bias (items (findK dim v bias ks s).2) k' b' c' ∧ 0 ≤ k' ∧ 0 ≤ b' ∧ 0 ≤ c' ∧
      k' + ((items (findK dim v bias ks s).2).length : Int) ≤ 1000000 ∧ b' + 1099511627776 * ((items (findK dim v bias ks s).2).length : Int) ≤ 9223372036854775807 ∧ c' + 1099511627776 * ((items (findK dim v bias ks s).2).length : Int) ≤ 9223372036854775807)
  | [], s, k, b, c, _, _, _, h, _, _, _, _, _, _ => .inl ⟨rfl, h⟩
  | x :: r, s, k, b, c, hs, hne, hf, h, h0, h1, h2, e0, e1, e2 => by
    rw [flat_cons] at hf e0 e1 e2 ⊢
    obtain ⟨f1, f2⟩ := fine_append.1 hf
    have b1 := sums_fine f1
    have b2 := sums_fine f2
    rw [List.length_append] at e0 e1 e2
    have a := addS_is h (hs x (List.mem_cons_self ..)) h0 h1 h2 (by omega) (by omega) (by omega) (by omega) (by omega) (by omega)
    have e : findK dim v bias (x :: r) s = if reach v bias (sizeD (addS s (sumOf x)) dim) = true then (s, x) else findK dim v bias r (addS s (sumOf x)) := rfl
    rw [e, size_is a hd]
    cases hr : reach v bias (if dim = 0 then b + sum0 (items x) else c + sum1 (items x)) with
    | true =>
      rw [if_pos rfl]
      refine .inr ⟨List.mem_cons_self .., k, b, c, h, findC_in _ _ _ _ _ (hne x (List.mem_cons_self ..)) hr, h0, h1, h2, ?_, ?_, ?_⟩
      · show k + ((items x).length : Int) ≤ _; omega
      · show b + 1099511627776 * ((items x).length : Int) ≤ _; omega
      · show c + 1099511627776 * ((items x).length : Int) ≤ _; omega
    | false =>
      rw [if_neg (by decide), findC_pass _ _ _ _ _ f1 hr]
      have ih := findK_is (v := v) (bias := bias) hd r _ _ _ _ (fun y hy => hs y (List.mem_cons_of_mem _ hy)) (fun y hy => hne y (List.mem_cons_of_mem _ hy)) f2 a (by omega) (by omega) (by omega) (by omega) (by omega) (by omega)
      rcases ih with ih | ⟨i1, i2⟩
      · exact .inl ih
      · exact .inr ⟨List.mem_cons_of_mem _ i1, i2⟩
theorem findF_nil (dim v bias : Int) (m : Nat) (s : Sm) (vis : Int) : (findF dim v bias m .nil s vis).1 = s := by
  cases m <;> rfl
theorem items_ne {h : Nat} {n : Nd} (hh : h ≤ 100) (e : Wf h false n) : items n ≠ [] := fun e0 => by
  have := count_full h n hh e
  rw [e0] at this
  have h5 : 0 < 4 ^ h := Nat.pow_pos (by omega)
  simp at this
theorem findF_is {dim v bias : Int} (hd : dim = 0 ∨ dim = 1) : (m h : Nat) → (top : Bool) → (n : Nd) → (s : Sm) → (vis k b c : Int) → h ≤ 100 → h ≤ m → Wf h top n → Fine (items n) → (items n).length ≤ 100000 → Is s k b c → 0 ≤ k → 0 ≤ b → 0 ≤ c → k + ((items n).length : Int) ≤ 1000000 → b + 1099511627776 * ((items n).length : Int) ≤ 9223372036854775807 → c + 1099511627776 * ((items n).length : Int) ≤ 9223372036854775807 →
    Is (findF dim v bias m n s vis).1 (findC dim v bias (items n) k b c).1 (findC dim v bias (items n) k b c).2.1 (findC dim v bias (items n) k b c).2.2
  | 0, h, _, n, _, _, _, _, _, _, hm, e, _, _, _, _, _, _, _, _, _ => by
    have : h = 0 := by omega
    subst this
    exact e.elim
  | m + 1, 0, _, _, _, _, _, _, _, _, _, e, _, _, _, _, _, _, _, _, _ => e.elim
  | m + 1, h + 1, _, .nil, _, _, _, _, _, _, _, e, _, _, _, _, _, _, _, _, _ => e.elim
  | m + 1, h + 1, _, .leaf a, s, vis, k, b, c, hh, hm, e, hf, hl, hs, h0, h1, h2, e0, e1, e2 => by
    show Is (findL dim v bias a.1 s) _ _ _
    exact findL_is hd a.1 s k b c hf hs h0 h1 h2 e0 e1 e2
  | m + 1, h + 1, top, .inner ks bx, s, vis, k, b, c, hh, hm, e, hf, hl, hs, h0, h1, h2, e0, e1, e2 => by
    have ei := items_inner e (by omega)
    rw [ei] at hf hl e0 e1 e2 ⊢
    obtain ⟨w1, w2, w3, w4, w5, w6⟩ := e
    have so : ∀ x ∈ ks, SumOk x := fun x hx => sum_wf h false x (by omega) (w6 x hx) (fine_mem hf hx) (Nat.le_trans (len_mem hx) hl)
    show Is (findF dim v bias m (findK dim v bias ks s).2 (findK dim v bias ks s).1 (w64 (vis + 1))).1 _ _ _
    rcases findK_is hd ks s k b c so (fun x hx => items_ne (by omega) (w6 x hx)) hf hs h0 h1 h2 e0 e1 e2 with ⟨g1, g2⟩ | ⟨g1, k', b', c', g2, g3, g4, g5, g6, g7, g8, g9⟩
    · rw [g1, findF_nil]
      exact g2
    · rw [g3]
      exact findF_is hd m h false _ _ _ k' b' c' (by omega) (by omega) (w6 _ g1) (fine_mem hf g1) (Nat.le_trans (len_mem g1) hl) g2 g4 g5 g6 g7 g8 g9
theorem sum_top {n : Nd} (hw : WfN n) (hf : Fine (items n)) (hl : (items n).length ≤ 100000) : SumOk n := by
  rcases hw with rfl | ⟨h, h1, w⟩
  · exact is_z
  · exact sum_wf h true n h1 w hf hl
theorem findP_is {dim v bias : Int} (hd : dim = 0 ∨ dim = 1) {n : Nd} (hw : WfN n) (hf : Fine (items n)) (hl : (items n).length ≤ 100000) :
    (findP n dim v bias).1 = (findC dim v bias (items n) 0 0 0).1 ∧ (findP n dim v bias).2.1.2.1.1 = (findC dim v bias (items n) 0 0 0).2.1 ∧ (findP n dim v bias).2.1.2.1.2.1 = (findC dim v bias (items n) 0 0 0).2.2 := by
  have : Is (findF dim v bias 101 n zS 0).1 (findC dim v bias (items n) 0 0 0).1 (findC dim v bias (items n) 0 0 0).2.1 (findC dim v bias (items n) 0 0 0).2.2 := by
    rcases hw with rfl | ⟨h, h1, w⟩
    · rw [findF_nil, items_nil, findC_nil]
      exact is_z
    · exact findF_is hd 101 h true n zS 0 0 0 0 h1 (by omega) w hf hl is_z (by omega) (by omega) (by omega) (by omega) (by omega) (by omega)
  exact this
end Go.Fr.Z14
namespace Go.Fr.Z14
open Go Go.Fr Go.Proofs
def rowP (t : Int) : Int → List Inl → List Itm
  | f, [] => if t > f then [plainI (t - f)] else []
  | f, x :: r => if x.2.1 > f then plainI (x.2.1 - f) :: virtualI x :: rowP t x.2.1 r else virtualI x :: rowP t f r
def Inls (f t : Int) (l : List Inl) : Prop := (∀ x ∈ l, f ≤ x.2.1 ∧ x.2.1 ≤ t ∧ 1 ≤ x.1 ∧ 1 ≤ lenT x ∧ lenT x ≤ 1000) ∧ l.Pairwise (fun a b => a.2.1 ≤ b.2.1) ∧ l.Pairwise (fun a b => a.1 ≠ b.1)
theorem inls_cons {f t : Int} {x : Inl} {r : List Inl} (h : Inls f t (x :: r)) : (f ≤ x.2.1 ∧ x.2.1 ≤ t ∧ 1 ≤ x.1 ∧ 1 ≤ lenT x ∧ lenT x ≤ 1000) ∧ Inls x.2.1 t r ∧ (∀ y ∈ r, y.1 ≠ x.1) := by
  obtain ⟨h1, h2, h3⟩ := h
  obtain ⟨p1, p2⟩ := List.pairwise_cons.1 h2
  obtain ⟨q1, q2⟩ := List.pairwise_cons.1 h3
  exact ⟨h1 x (List.mem_cons_self ..), ⟨fun y hy => ⟨p1 y hy, (h1 y (List.mem_cons_of_mem _ hy)).2⟩, p2, q2⟩, fun y hy e => q1 y hy e.symm⟩
theorem inls_less {f g t : Int} {l : List Inl} (h : Inls f t l) (hg : g ≤ f) : Inls g t l :=
  ⟨fun x hx => by have := h.1 x hx; exact ⟨by omega, this.2⟩, h.2⟩
theorem rowF_eq {t : Int} (ht : t ≤ 1099511627776) : (f : Int) → (l : List Inl) → 0 ≤ f → f ≤ t → Inls f t l → rowF t f l = rowP t f l
  | f, [], h0, h1, _ => by
    unfold rowF rowP
    rw [w64_id (by omega) (by omega)]
  | f, x :: r, h0, h1, h => by
    obtain ⟨i1, i2, _⟩ := inls_cons h
    unfold rowF rowP
    rw [w64_id (by omega) (by omega), rowF_eq ht x.2.1 r (by omega) i1.2.1 i2]
    by_cases hx : x.2.1 > f
    · rw [if_pos hx, if_pos hx]
    · rw [if_neg hx, if_neg hx]
      have e : f = x.2.1 := by omega
      rw [rowF_eq ht f r h0 h1 (inls_less i2 (by omega))]
theorem plain_ok {n : Int} (h : 1 ≤ n) (h1 : n ≤ 1099511627776) : okPiece (plainI n) := .inl ⟨rfl, rfl, h, h1⟩
theorem virtual_ok {x : Inl} (h : 1 ≤ x.1) (h1 : 1 ≤ lenT x) (h2 : lenT x ≤ 1000) : okPiece (virtualI x) := .inr ⟨h, rfl, h1, by show lenT x ≤ _; omega⟩
theorem rowP_rowly {t : Int} (ht : t ≤ 1099511627776) : (p f : Int) → (l : List Inl) → 0 ≤ f → f ≤ t → Inls f t l → p ≠ 0 → (∀ x ∈ l, x.1 ≠ p) → Rowly p (rowP t f l)
  | p, f, [], h0, h1, _, hp, _ => by
    unfold rowP
    by_cases ht' : t > f
    · rw [if_pos ht']
      exact ⟨plain_ok (by omega) (by omega), fun e => hp e.symm, trivial⟩
    · rw [if_neg ht']
      trivial
  | p, f, x :: r, h0, h1, h, hp, hn => by
    obtain ⟨i1, i2, i3⟩ := inls_cons h
    unfold rowP
    have vo := virtual_ok i1.2.2.1 i1.2.2.2.1 i1.2.2.2.2
    by_cases hx : x.2.1 > f
    · rw [if_pos hx]
      exact ⟨plain_ok (by omega) (by omega), fun e => hp e.symm, vo, fun e => by have : x.1 = 0 := e; omega, rowP_rowly ht x.1 x.2.1 r (by omega) i1.2.1 i2 (by omega) i3⟩
    · rw [if_neg hx]
      exact ⟨vo, hn x (List.mem_cons_self ..), rowP_rowly ht x.1 f r h0 h1 (inls_less i2 (by omega)) (by omega) i3⟩
def spF (n : Int) (l : List Inl) (f : Int) : Nat → List Spt
  | 0 => []
  | m + 1 => spotsX f l ++ (if f < n then [(f, 0, ())] else []) ++ spF n l (f + 1) m
theorem spots_F (w : WSet) : spots w = spF w.1 w.2.1 0 (w.1 + 1).toNat := by
  unfold spots
  rw [List.range_eq_range']
  have : ∀ (m f : Nat), (List.range' f m).flatMap (fun k : Nat => spotsAt w (k : Int)) = spF w.1 w.2.1 (f : Int) m := by
    intro m
    induction m with
    | zero => intro f; rfl
    | succ m ih =>
      intro f
      rw [List.range'_succ, List.flatMap_cons, ih (f + 1)]
      rfl
  exact this _ 0
theorem spotsX_cons (k : Int) (x : Inl) (r : List Inl) : spotsX k (x :: r) = (if x.2.1 = k then List.replicate (lenT x).toNat (k, x.1, ()) else []) ++ spotsX k r := by
  unfold spotsX
  rw [List.flatMap_cons]
  congr 1
  split
  · rw [List.map_const']
    congr 1
  · rfl
theorem spotsX_none {k : Int} {l : List Inl} (h : ∀ x ∈ l, x.2.1 ≠ k) : spotsX k l = [] := by
  induction l with
  | nil => rfl
  | cons x r ih =>
    rw [spotsX_cons, if_neg (h x (List.mem_cons_self ..)), ih fun y hy => h y (List.mem_cons_of_mem _ hy)]
    rfl
theorem spF_later {n : Int} {x : Inl} {r : List Inl} : (m : Nat) → (f : Int) → x.2.1 < f → spF n (x :: r) f m = spF n r f m
  | 0, _, _ => rfl
  | m + 1, f, h => by
    show spotsX f (x :: r) ++ _ ++ _ = spotsX f r ++ _ ++ _
    rw [spotsX_cons, if_neg (by omega), spF_later m (f + 1) (by omega)]
    rfl
theorem spF_here {n : Int} {x : Inl} {r : List Inl} (m : Nat) : spF n (x :: r) x.2.1 (m + 1) = List.replicate (lenT x).toNat (x.2.1, x.1, ()) ++ spF n r x.2.1 (m + 1) := by
  show spotsX _ (x :: r) ++ _ ++ _ = _ ++ (spotsX _ r ++ _ ++ _)
  rw [spotsX_cons, if_pos rfl, spF_later m _ (by omega)]
  simp only [List.append_assoc]
theorem spF_skip {n : Int} {l : List Inl} : (d : Nat) → (f : Int) → f + d ≤ n → (∀ y ∈ l, f + d ≤ y.2.1) → spF n l f (n + 1 - f).toNat = runB f d ++ spF n l (f + d) (n + 1 - (f + d)).toNat
  | 0, f, _, _ => by simp [runB]
  | d + 1, f, h, hl => by
    have e : (n + 1 - f).toNat = (n + 1 - (f + 1)).toNat + 1 := by omega
    rw [e]
    show spotsX f l ++ _ ++ spF n l (f + 1) _ = _
    rw [spotsX_none (fun y hy => by have := hl y hy; omega), if_pos (by omega), spF_skip d (f + 1) (by omega) (fun y hy => by have := hl y hy; omega)]
    have e2 : f + 1 + (d : Int) = f + ((d + 1 : Nat) : Int) := by omega
    rw [e2]
    rfl
theorem runes_plain (b n : Int) : runes b (plainI n) = runB b n.toNat := rfl
theorem runes_virtual (b : Int) {x : Inl} (h : 1 ≤ x.1) : runes b (virtualI x) = List.replicate (lenT x).toNat (b, x.1, ()) := by
  unfold runes
  rw [if_neg (by show ¬ x.1 = 0; omega)]
  rfl
theorem spots_row {n : Int} : (f : Int) → (l : List Inl) → 0 ≤ f → f ≤ n → Inls f n l → spF n l f (n + 1 - f).toNat = expand f (rowP n f l)
  | f, [], h0, h1, _ => by
    have := spF_skip (n := n) (l := []) (n - f).toNat f (by omega) (fun y hy => by cases hy)
    rw [this]
    have e : f + (((n - f).toNat : Nat) : Int) = n := by omega
    rw [e, show (n + 1 - n).toNat = 0 + 1 by omega]
    show runB f _ ++ (spotsX n [] ++ (if n < n then _ else _) ++ []) = _
    rw [if_neg (by omega)]
    unfold rowP
    by_cases ht : n > f
    · rw [if_pos ht, expand_cons, runes_plain]
      rfl
    · rw [if_neg ht, show (n - f).toNat = 0 by omega]
      rfl
  | f, x :: r, h0, h1, h => by
    obtain ⟨i1, i2, i3⟩ := inls_cons h
    have go : spF n (x :: r) x.2.1 (n + 1 - x.2.1).toNat = runes x.2.1 (virtualI x) ++ expand x.2.1 (rowP n x.2.1 r) := by
      have e : (n + 1 - x.2.1).toNat = (n - x.2.1).toNat + 1 := by omega
      rw [e, spF_here, ← e, spots_row x.2.1 r (by omega) i1.2.1 i2, runes_virtual _ i1.2.2.1]
    unfold rowP
    by_cases hx : x.2.1 > f
    · rw [if_pos hx]
      have hs := spF_skip (n := n) (l := x :: r) (x.2.1 - f).toNat f (by omega) (fun y hy => by
        rcases List.mem_cons.1 hy with e | hy
        · subst e; omega
        · have := (i2.1 y hy).1; omega)
      have e : f + (((x.2.1 - f).toNat : Nat) : Int) = x.2.1 := by omega
      rw [hs, e, go, expand_cons, runes_plain, expand_cons]
      have e2 : f + d0 (plainI (x.2.1 - f)) = x.2.1 := by show f + (x.2.1 - f) = _; omega
      have e3 : x.2.1 + d0 (virtualI x) = x.2.1 := by show x.2.1 + 0 = _; omega
      rw [e2, e3]
    · rw [if_neg hx]
      have e : f = x.2.1 := by omega
      rw [e, go, expand_cons]
      have e3 : x.2.1 + d0 (virtualI x) = x.2.1 := by show x.2.1 + 0 = _; omega
      rw [e3]
def lens (l : List Inl) : Int := (l.map lenT).sum
theorem lens_cons (x : Inl) (r : List Inl) : lens (x :: r) = lenT x + lens r := by simp [lens]
theorem row_sums {t : Int} : (f : Int) → (l : List Inl) → f ≤ t → Inls f t l → sum0 (rowP t f l) = t - f ∧ sum1 (rowP t f l) = t - f + lens l
  | f, [], h1, _ => by
    unfold rowP
    by_cases ht : t > f
    · rw [if_pos ht]
      rw [sum0_cons, sum1_cons]
      exact ⟨by show t - f + 0 = _; omega, by show t - f + 0 = _; simp [lens]⟩
    · rw [if_neg ht]
      exact ⟨by show (0 : Int) = _; omega, by show (0 : Int) = _; simp [lens]; omega⟩
  | f, x :: r, h1, h => by
    obtain ⟨i1, i2, i3⟩ := inls_cons h
    unfold rowP
    obtain ⟨s0, s1⟩ := row_sums x.2.1 r i1.2.1 i2
    by_cases hx : x.2.1 > f
    · rw [if_pos hx, sum0_cons, sum1_cons, sum0_cons, sum1_cons, s0, s1, lens_cons]
      exact ⟨by show x.2.1 - f + (0 + _) = _; omega, by show x.2.1 - f + (lenT x + _) = _; omega⟩
    · rw [if_neg hx]
      have e : f = x.2.1 := by omega
      rw [e, sum0_cons, sum1_cons, s0, s1, lens_cons]
      exact ⟨by show 0 + _ = _; omega, by show lenT x + _ = _; omega⟩
theorem row_len {t : Int} : (f : Int) → (l : List Inl) → (rowP t f l).length ≤ 2 * l.length + 1
  | f, [] => by
    unfold rowP
    split <;> simp
  | f, x :: r => by
    unfold rowP
    split
    · have := row_len (t := t) x.2.1 r
      simp; omega
    · have := row_len (t := t) f r
      simp; omega
def isAhead (at_ bias : Int) (x : Inl) : Prop := x.2.1 < at_ ∨ (x.2.1 = at_ ∧ bias = 1)
instance (at_ bias : Int) (x : Inl) : Decidable (isAhead at_ bias x) := by unfold isAhead; infer_instance
def lensA (at_ bias : Int) : List Inl → Int
  | [] => 0
  | x :: r => (if isAhead at_ bias x then lenT x else 0) + lensA at_ bias r
theorem lensA_none {at_ bias : Int} {l : List Inl} (h : ∀ x ∈ l, ¬ isAhead at_ bias x) : lensA at_ bias l = 0 := by
  induction l with
  | nil => rfl
  | cons x r ih =>
    show (if isAhead at_ bias x then lenT x else 0) + lensA at_ bias r = _
    rw [if_neg (h x (List.mem_cons_self ..)), ih fun y hy => h y (List.mem_cons_of_mem _ hy)]
    rfl
theorem lenT_nn (x : Inl) : 0 ≤ lenT x := Int.natCast_nonneg _
theorem lensA_nn (at_ bias : Int) (l : List Inl) : 0 ≤ lensA at_ bias l := by
  induction l with
  | nil => exact Int.le_refl _
  | cons x r ih =>
    show 0 ≤ (if isAhead at_ bias x then lenT x else 0) + lensA at_ bias r
    have := lenT_nn x
    split <;> omega
theorem lensA_le (at_ bias : Int) (l : List Inl) : lensA at_ bias l ≤ lens l := by
  induction l with
  | nil => exact Int.le_refl _
  | cons x r ih =>
    rw [lens_cons]
    show (if isAhead at_ bias x then lenT x else 0) + lensA at_ bias r ≤ _
    have := lenT_nn x
    split <;> omega
theorem lensA_mono {a b c d : Int} {l : List Inl} (h : ∀ x ∈ l, isAhead a b x → isAhead c d x) : lensA a b l ≤ lensA c d l := by
  induction l with
  | nil => exact Int.le_refl _
  | cons x r ih =>
    have := ih fun y hy => h y (List.mem_cons_of_mem _ hy)
    have hx := h x (List.mem_cons_self ..)
    have := lenT_nn x
    show (if isAhead a b x then lenT x else 0) + lensA a b r ≤ (if isAhead c d x then lenT x else 0) + lensA c d r
    by_cases h1 : isAhead a b x
    · rw [if_pos h1, if_pos (hx h1)]; omega
    · rw [if_neg h1]
      split <;> omega
theorem lensA_all {at_ bias : Int} {l : List Inl} (h : ∀ x ∈ l, isAhead at_ bias x) : lensA at_ bias l = lens l := by
  induction l with
  | nil => rfl
  | cons x r ih =>
    rw [lens_cons]
    show (if isAhead at_ bias x then lenT x else 0) + lensA at_ bias r = _
    rw [if_pos (h x (List.mem_cons_self ..)), ih fun y hy => h y (List.mem_cons_of_mem _ hy)]
theorem lens_bd {l : List Inl} (h : ∀ x ∈ l, lenT x ≤ 1000) : 0 ≤ lens l ∧ lens l ≤ 1000 * (l.length : Int) := by
  induction l with
  | nil => simp [lens]
  | cons x r ih =>
    have := ih fun y hy => h y (List.mem_cons_of_mem _ hy)
    have := h x (List.mem_cons_self ..)
    have := lenT_nn x
    rw [lens_cons, List.length_cons]
    omega
theorem refOut_fold {at_ bias : Int} : (l : List Inl) → (n : Int) → 0 ≤ n → (∀ x ∈ l, lenT x ≤ 1000) → n + 1000 * (l.length : Int) ≤ 9000000000000000000 →
    l.foldl (fun n x => if x.2.1 < at_ ∨ (x.2.1 = at_ ∧ bias = 1) then w64 (n + lenT x) else n) n = n + lensA at_ bias l
  | [], n, _, _, _ => by simp [lensA]
  | x :: r, n, h0, h, hb => by
    have hx := h x (List.mem_cons_self ..)
    have hn := lenT_nn x
    rw [List.length_cons] at hb
    rw [List.foldl_cons]
    show _ = n + ((if x.2.1 < at_ ∨ (x.2.1 = at_ ∧ bias = 1) then lenT x else 0) + lensA at_ bias r)
    by_cases hc : x.2.1 < at_ ∨ (x.2.1 = at_ ∧ bias = 1)
    · rw [if_pos hc, if_pos hc, w64_id (by omega) (by omega), refOut_fold r _ (by omega) (fun y hy => h y (List.mem_cons_of_mem _ hy)) (by omega)]
      omega
    · rw [if_neg hc, if_neg hc, refOut_fold r _ h0 (fun y hy => h y (List.mem_cons_of_mem _ hy)) (by omega)]
      omega
theorem out_row {t v bias : Int} (hb : bias = 0 ∨ bias = 1) : (k f c : Int) → (l : List Inl) → f ≤ t → Inls f t l →
    (findC 0 v bias (rowP t f l) k f c).2.2 - (findC 0 v bias (rowP t f l) k f c).2.1 = c - f + lensA v bias l
  | k, f, c, [], h1, _ => by
    unfold rowP
    by_cases ht : t > f
    · rw [if_pos ht]
      show (if reach v bias (f + (t - f)) = true then (k, f, c) else (k + 1, f + (t - f), c + (t - f))).2.2 - (if reach v bias (f + (t - f)) = true then (k, f, c) else (k + 1, f + (t - f), c + (t - f))).2.1 = _
      split <;> (show _ = c - f + 0; simp only []; omega)
    · rw [if_neg ht]
      show c - f = c - f + 0
      omega
  | k, f, c, x :: r, h1, h => by
    obtain ⟨i1, i2, i3⟩ := inls_cons h
    have nr : ∀ e, e ≤ x.2.1 → reach v bias e = true → lensA v bias (x :: r) = 0 := fun e he hr => lensA_none fun y hy => by
      have hy' : x.2.1 ≤ y.2.1 := by
        rcases List.mem_cons.1 hy with e | hy
        · subst e; omega
        · exact (i2.1 y hy).1
      unfold reach at hr
      unfold isAhead
      simp at hr
      omega
    have go : ∀ k c, (findC 0 v bias (virtualI x :: rowP t x.2.1 r) k x.2.1 c).2.2 - (findC 0 v bias (virtualI x :: rowP t x.2.1 r) k x.2.1 c).2.1 = c - x.2.1 + lensA v bias (x :: r) := fun k c => by
      have e : findC 0 v bias (virtualI x :: rowP t x.2.1 r) k x.2.1 c = if reach v bias (x.2.1 + 0) = true then (k, x.2.1, c) else findC 0 v bias (rowP t x.2.1 r) (k + 1) (x.2.1 + 0) (c + lenT x) := rfl
      rw [e, Int.add_zero]
      by_cases hr : reach v bias x.2.1 = true
      · rw [if_pos hr, nr _ (Int.le_refl _) hr]
        show c - x.2.1 = _
        omega
      · rw [if_neg hr, out_row hb (k + 1) x.2.1 (c + lenT x) r i1.2.1 i2]
        show _ = c - x.2.1 + ((if isAhead v bias x then lenT x else 0) + lensA v bias r)
        rw [if_pos]
        · omega
        · unfold reach at hr
          unfold isAhead
          simp at hr
          omega
    unfold rowP
    by_cases hx : x.2.1 > f
    · rw [if_pos hx]
      have e : findC 0 v bias (plainI (x.2.1 - f) :: virtualI x :: rowP t x.2.1 r) k f c = if reach v bias (f + (x.2.1 - f)) = true then (k, f, c) else findC 0 v bias (virtualI x :: rowP t x.2.1 r) (k + 1) (f + (x.2.1 - f)) (c + (x.2.1 - f)) := rfl
      rw [e, show f + (x.2.1 - f) = x.2.1 by omega]
      by_cases hr : reach v bias x.2.1 = true
      · rw [if_pos hr, nr _ (Int.le_refl _) hr]
        show c - f = _
        omega
      · rw [if_neg hr, go]
        omega
    · rw [if_neg hx]
      have e : f = x.2.1 := by omega
      rw [e]
      exact go k c
def inS (at_ : Int) : List Itm → Int → Int → Int × Int
  | [], b, c => (b + (at_ - c), 0)
  | i :: r, b, c => if at_ < c + d1 i then (if i.2.1 = 0 then (b + (at_ - c), 0) else if at_ - c = 0 then (b, 0) else (b, i.2.1)) else inS at_ r (b + d0 i) (c + d1 i)
theorem inS_find {at_ : Int} : (l : List Itm) → (k b c : Int) → ∃ j : Nat, (findC 1 at_ 1 l k b c).1 = k + (j : Int) ∧ j ≤ l.length ∧
    inS at_ l b c = (if (l.getD j zItm).2.1 = 0 then ((findC 1 at_ 1 l k b c).2.1 + (at_ - (findC 1 at_ 1 l k b c).2.2), 0) else if at_ - (findC 1 at_ 1 l k b c).2.2 = 0 then ((findC 1 at_ 1 l k b c).2.1, 0) else ((findC 1 at_ 1 l k b c).2.1, (l.getD j zItm).2.1))
  | [], k, b, c => ⟨0, by show k = _; omega, Nat.zero_le _, rfl⟩
  | i :: l, k, b, c => by
    have e : findC 1 at_ 1 (i :: l) k b c = if reach at_ 1 (c + d1 i) = true then (k, b, c) else findC 1 at_ 1 l (k + 1) (b + d0 i) (c + d1 i) := rfl
    have e2 : inS at_ (i :: l) b c = if at_ < c + d1 i then (if i.2.1 = 0 then (b + (at_ - c), 0) else if at_ - c = 0 then (b, 0) else (b, i.2.1)) else inS at_ l (b + d0 i) (c + d1 i) := rfl
    rw [e, e2]
    by_cases hr : at_ < c + d1 i
    · rw [if_pos (show reach at_ 1 (c + d1 i) = true by unfold reach; simp; omega), if_pos hr]
      exact ⟨0, by show k = _; omega, Nat.zero_le _, rfl⟩
    · rw [if_neg (show ¬ reach at_ 1 (c + d1 i) = true by unfold reach; simp; omega), if_neg hr]
      obtain ⟨j, h1, h2, h3⟩ := inS_find l (k + 1) (b + d0 i) (c + d1 i)
      exact ⟨j + 1, by rw [h1]; omega, by simp; omega, h3⟩
theorem in_out {t v bias : Int} (hb : bias = 0 ∨ bias = 1) : (f c : Int) → (l : List Inl) → f ≤ v → v ≤ t → Inls f t l → inS (c + (v - f) + lensA v bias l) (rowP t f l) f c = (v, 0)
  | f, c, [], h0, h1, _ => by
    rw [show lensA v bias [] = 0 from rfl, Int.add_zero]
    unfold rowP
    by_cases ht : t > f
    · rw [if_pos ht]
      show (if c + (v - f) < c + (t - f) then (f + (c + (v - f) - c), (0 : Int)) else (f + (t - f) + (c + (v - f) - (c + (t - f))), 0)) = _
      split <;> (congr 1; omega)
    · rw [if_neg ht]
      show (f + (c + (v - f) - c), (0 : Int)) = _
      congr 1; omega
  | f, c, x :: r, h0, h1, h => by
    obtain ⟨i1, i2, i3⟩ := inls_cons h
    have none_ : v < x.2.1 ∨ (v = x.2.1 ∧ bias = 0) → lensA v bias (x :: r) = 0 := fun hv => lensA_none fun y hy => by
      have hy' : x.2.1 ≤ y.2.1 := by
        rcases List.mem_cons.1 hy with e | hy
        · subst e; omega
        · exact (i2.1 y hy).1
      unfold isAhead
      omega
    have go : ∀ c, x.2.1 ≤ v → inS (c + (v - x.2.1) + lensA v bias (x :: r)) (virtualI x :: rowP t x.2.1 r) x.2.1 c = (v, 0) := fun c hv => by
      generalize hat : c + (v - x.2.1) + lensA v bias (x :: r) = at_
      have e : inS at_ (virtualI x :: rowP t x.2.1 r) x.2.1 c = if at_ < c + lenT x then (if x.1 = 0 then (x.2.1 + (at_ - c), 0) else if at_ - c = 0 then (x.2.1, 0) else (x.2.1, x.1)) else inS at_ (rowP t x.2.1 r) (x.2.1 + 0) (c + lenT x) := rfl
      rw [e]
      by_cases hn : v = x.2.1 ∧ bias = 0
      · have h0 := none_ (.inr hn)
        rw [h0] at hat
        rw [if_pos (by omega), if_neg (by omega), if_pos (by omega), hn.1]
      · have hl : lensA v bias (x :: r) = lenT x + lensA v bias r := by
          show (if isAhead v bias x then lenT x else 0) + _ = _
          rw [if_pos]
          unfold isAhead
          omega
        have := lensA_nn v bias r
        rw [hl] at hat
        rw [if_neg (by omega), Int.add_zero]
        have hq := in_out hb x.2.1 (c + lenT x) r hv h1 i2
        have : c + lenT x + (v - x.2.1) + lensA v bias r = at_ := by omega
        rw [this] at hq
        exact hq
    unfold rowP
    by_cases hx : x.2.1 > f
    · rw [if_pos hx]
      generalize hat : c + (v - f) + lensA v bias (x :: r) = at_
      have e : inS at_ (plainI (x.2.1 - f) :: virtualI x :: rowP t x.2.1 r) f c = if at_ < c + (x.2.1 - f) then (f + (at_ - c), 0) else inS at_ (virtualI x :: rowP t x.2.1 r) (f + (x.2.1 - f)) (c + (x.2.1 - f)) := rfl
      rw [e, show f + (x.2.1 - f) = x.2.1 by omega]
      have := lensA_nn v bias (x :: r)
      by_cases hv : v < x.2.1
      · have h0 := none_ (.inl hv)
        rw [h0] at hat
        rw [if_pos (by omega)]
        congr 1; omega
      · rw [if_neg (by omega)]
        have hq := go (c + (x.2.1 - f)) (by omega)
        have : c + (x.2.1 - f) + (v - x.2.1) + lensA v bias (x :: r) = at_ := by omega
        rw [this] at hq
        exact hq
    · rw [if_neg hx]
      have e : f = x.2.1 := by omega
      rw [e]
      exact go c (by omega)
end Go.Fr.Z14
namespace Go.Fr.Z14
open Go Go.Fr Go.Proofs
theorem findC_bd {dim v bias : Int} : (l : List Itm) → (k b c : Int) → Fine l → b ≤ (findC dim v bias l k b c).2.1 ∧ (findC dim v bias l k b c).2.1 ≤ b + sum0 l ∧ c ≤ (findC dim v bias l k b c).2.2 ∧ (findC dim v bias l k b c).2.2 ≤ c + sum1 l
  | [], k, b, c, _ => by
    rw [findC_nil]
    simp [sum0, sum1]
  | i :: l, k, b, c, hf => by
    obtain ⟨f1, f2⟩ := fine_cons hf
    have b2 := sums_fine f2
    have ih := findC_bd (dim := dim) (v := v) (bias := bias) l (k + 1) (b + d0 i) (c + d1 i) f2
    rw [sum0_cons, sum1_cons]
    have e : findC dim v bias (i :: l) k b c = if reach v bias (if dim = 0 then b + d0 i else c + d1 i) = true then (k, b, c) else findC dim v bias l (k + 1) (b + d0 i) (c + d1 i) := rfl
    rw [e]
    cases reach v bias (if dim = 0 then b + d0 i else c + d1 i) with
    | true =>
      show b ≤ b ∧ b ≤ b + (d0 i + sum0 l) ∧ c ≤ c ∧ c ≤ c + (d1 i + sum1 l)
      omega
    | false =>
      rw [if_neg (by decide)]
      omega
theorem check_plain {n : Int} (h0 : 0 ≤ n) (h1 : n ≤ 1099511627776) : checkI (plainI n) = 0 := by
  unfold checkI
  rw [if_pos]
  show (withinN 0 && withinN n && withinN n && withinN 0) = true
  simp [withinN, h0, h1]
theorem check_virtual {x : Inl} (h : lenT x ≤ 1000) : checkI (virtualI x) = 0 := by
  have := lenT_nn x
  unfold checkI
  rw [if_pos]
  show (withinN 0 && withinN 0 && withinN (lenT x) && withinN 0) = true
  simp [withinN]
  omega
theorem row_check {t : Int} (ht : t ≤ 1099511627776) : (f : Int) → (l : List Inl) → 0 ≤ f → Inls f t l → ∀ i ∈ rowP t f l, checkI i = 0
  | f, [], h0, _ => by
    unfold rowP
    split
    · intro i hi
      rw [List.mem_singleton.1 hi]
      exact check_plain (by omega) (by omega)
    · intro i hi
      cases hi
  | f, x :: r, h0, h => by
    obtain ⟨i1, i2, i3⟩ := inls_cons h
    have cv := check_virtual i1.2.2.2.2
    have ih := row_check ht x.2.1 r (by omega) i2
    unfold rowP
    by_cases hx : x.2.1 > f
    · rw [if_pos hx]
      intro i hi
      rcases List.mem_cons.1 hi with e | hi
      · subst e; exact check_plain (by omega) (by omega)
      · rcases List.mem_cons.1 hi with e | hi
        · subst e; exact cv
        · exact ih i hi
    · rw [if_neg hx]
      have e : f = x.2.1 := by omega
      rw [e]
      intro i hi
      rcases List.mem_cons.1 hi with e | hi
      · subst e; exact cv
      · exact ih i hi
theorem made_inls {s : Option ISet} {w : WSet} (h : Made s w) : ∃ n L, s = some (n, L, ()) ∧ w = (n, L, 0, ()) ∧ 0 ≤ n ∧ n ≤ 1099511627776 ∧ L.length ≤ 60 ∧ Inls 0 n L := by
  obtain ⟨n, L, rfl, rfl, hw, hc, hs⟩ := h
  obtain ⟨h1, h2, h3, h4⟩ := wrong_zero.1 hw
  refine ⟨n, L, rfl, rfl, h1.1, h1.2, by omega, fun x hx => ?_, hs.imp fun {a b} hab => ?_, h4⟩
  · have a1 := wi_at (h3 x hx)
    obtain ⟨_, a2, a3⟩ := wi_zero.1 (h3 x hx)
    have a4 : ¬ (decodeL (txt x)).length = 0 := fun e => a3 (.inl ((dec_none _).1 e))
    unfold lenT
    omega
  · rw [cmpL_lt] at hab
    omega
theorem weave_ok {n : Int} {L : List Inl} (h0 : 0 ≤ n) (h1 : n ≤ 1099511627776) (hl : L.length ≤ 60) (hi : Inls 0 n L) :
    weaveI (some (n, L, ())) = some (some (buildT (rowP n 0 L), ()), ()) ∧ WfN (buildT (rowP n 0 L)) ∧ items (buildT (rowP n 0 L)) = rowP n 0 L ∧ (rowP n 0 L).length ≤ 121 ∧ Rowly (-1) (rowP n 0 L) ∧ sum0 (rowP n 0 L) = n ∧ sum1 (rowP n 0 L) = n + lens L ∧ 0 ≤ lens L ∧ lens L ≤ 60000 := by
  have hlen := row_len (t := n) 0 L
  obtain ⟨b1, b2⟩ := buildT_ok (l := rowP n 0 L) (by omega)
  obtain ⟨s0, s1⟩ := row_sums (t := n) 0 L h0 hi
  have hb := lens_bd (l := L) fun x hx => (hi.1 x hx).2.2.2.2
  refine ⟨?_, b1, b2, by omega, rowP_rowly h1 (-1) 0 L (Int.le_refl _) h0 hi (by decide) (fun x hx => by have := (hi.1 x hx).2.2.1; omega), by omega, by omega, by omega, by omega⟩
  have e : (newT (rowF n 0 L)).1 = some (buildT (rowP n 0 L), ()) := by
    rw [rowF_eq h1 0 L (Int.le_refl _) h0 hi]
    unfold newT
    rw [if_neg (by omega), if_pos]
    rw [List.all_eq_true]
    intro i hi2
    exact decide_eq_true (row_check h1 0 L (Int.le_refl _) hi i hi2)
  show some ((newT (rowF n 0 L)).1, ()) = _
  rw [e]
theorem spots_ok {n : Int} {L : List Inl} (h0 : 0 ≤ n) (hi : Inls 0 n L) : spots (n, L, 0, ()) = expand 0 (rowP n 0 L) := by
  rw [spots_F]
  have := spots_row (n := n) 0 L (Int.le_refl _) h0 hi
  rw [show n + 1 - 0 = n + 1 by omega] at this
  exact this
theorem tree_find {its : List Itm} {dim v bias : Int} (hd : dim = 0 ∨ dim = 1) (hw : WfN (buildT its)) (hi : items (buildT its) = its) (hf : Fine its) (hl : its.length ≤ 1000) :
    findT (some (buildT its, ())) dim v bias = if v < 0 ∨ v > (if dim = 0 then sum0 its else sum1 its) ∨ (bias ≠ 0 ∧ bias ≠ 1) then ((0, zS, 0, ()), 1, ()) else (findP (buildT its) dim v bias, 0, ()) := by
  have so := sum_top hw (by rw [hi]; exact hf) (by rw [hi]; omega)
  unfold SumOk at so
  rw [hi] at so
  unfold findT
  show (if dim < 0 ∨ dim > 3 ∨ v < 0 ∨ v > sizeD (sumOf (buildT its)) dim ∨ (bias ≠ 0 ∧ bias ≠ 1) then _ else _) = _
  rw [size_is so hd]
  have e : (dim < 0 ∨ dim > 3 ∨ v < 0 ∨ v > (if dim = 0 then sum0 its else sum1 its) ∨ (bias ≠ 0 ∧ bias ≠ 1)) = (v < 0 ∨ v > (if dim = 0 then sum0 its else sum1 its) ∨ (bias ≠ 0 ∧ bias ≠ 1)) := by
    rw [eq_iff_iff]
    constructor
    · rintro (h | h | h)
      · omega
      · omega
      · exact h
    · intro h
      exact .inr (.inr h)
  simp only [e]
  rfl
theorem out_ok {n : Int} {L : List Inl} (h0 : 0 ≤ n) (h1 : n ≤ 1099511627776) (hl : L.length ≤ 60) (hi : Inls 0 n L) (at_ bias : Int) :
    outW (weaveI (some (n, L, ()))) at_ bias = if at_ < 0 ∨ at_ > n ∨ (bias ≠ 0 ∧ bias ≠ 1) then (0, 1, ()) else (at_ + lensA at_ bias L, 0, ()) := by
  obtain ⟨w1, w2, w3, w4, w5, w6, w7, w8, w9⟩ := weave_ok h0 h1 hl hi
  have ff := rowly_fine w5
  have tf := tree_find (v := at_) (bias := bias) (.inl rfl) w2 w3 ff (by omega)
  rw [if_pos rfl, w6] at tf
  rw [w1]
  unfold outW
  show (if (findT (some (buildT (rowP n 0 L), ())) 0 at_ bias).2.1 ≠ 0 then _ else _) = _
  rw [show treeOf (some (some (buildT (rowP n 0 L), ()), ())) = some (buildT (rowP n 0 L), ()) from rfl, tf]
  by_cases hc : at_ < 0 ∨ at_ > n ∨ (bias ≠ 0 ∧ bias ≠ 1)
  · rw [if_pos hc, if_pos hc, if_pos (by decide)]
  · rw [if_neg hc, if_neg hc, if_neg (by simp)]
    obtain ⟨_, p2, p3⟩ := findP_is (dim := 0) (v := at_) (bias := bias) (.inl rfl) w2 (by rw [w3]; exact ff) (by rw [w3]; omega)
    rw [w3] at p2 p3
    have bd := findC_bd (dim := 0) (v := at_) (bias := bias) (rowP n 0 L) 0 0 0 ff
    have o := out_row (t := n) (v := at_) (bias := bias) (by omega) 0 0 0 L h0 hi
    rw [w6, w7] at bd
    show (w64 (w64 ((findP (buildT (rowP n 0 L)) 0 at_ bias).2.1.2.1.2.1 + at_) - (findP (buildT (rowP n 0 L)) 0 at_ bias).2.1.2.1.1), (0 : Int), ()) = _
    rw [p2, p3]
    generalize findC 0 at_ bias (rowP n 0 L) 0 0 0 = f at bd o ⊢
    rw [w64_id (n := f.2.2 + at_) (by omega) (by omega), w64_id (by omega) (by omega)]
    congr 1
    omega
theorem refOut_ok {n : Int} {L : List Inl} (hl : L.length ≤ 60) (hi : Inls 0 n L) {at_ bias : Int} (h0 : 0 ≤ at_) (h1 : at_ ≤ n) (h2 : n ≤ 1099511627776) : refOut (n, L, 0, ()) at_ bias = at_ + lensA at_ bias L :=
  refOut_fold L at_ h0 (fun x hx => (hi.1 x hx).2.2.2.2) (by omega)
theorem in_ok {n : Int} {L : List Inl} (h0 : 0 ≤ n) (h1 : n ≤ 1099511627776) (hl : L.length ≤ 60) (hi : Inls 0 n L) (at_ : Int) :
    inW (weaveI (some (n, L, ()))) at_ = if at_ < 0 ∨ at_ > n + lens L then (0, 0, 1, ()) else ((inS at_ (rowP n 0 L) 0 0).1, (inS at_ (rowP n 0 L) 0 0).2, 0, ()) := by
  obtain ⟨w1, w2, w3, w4, w5, w6, w7, w8, w9⟩ := weave_ok h0 h1 hl hi
  have ff := rowly_fine w5
  have tf := tree_find (v := at_) (bias := 1) (.inr rfl) w2 w3 ff (by omega)
  rw [show (if (1 : Int) = 0 then sum0 (rowP n 0 L) else sum1 (rowP n 0 L)) = n + lens L from w7] at tf
  rw [w1]
  unfold inW
  rw [show treeOf (some (some (buildT (rowP n 0 L), ()), ())) = some (buildT (rowP n 0 L), ()) from rfl]
  by_cases hc : at_ < 0 ∨ at_ > n + lens L
  · rw [if_pos (show at_ < 0 ∨ at_ > n + lens L ∨ ((1 : Int) ≠ 0 ∧ (1 : Int) ≠ 1) by omega)] at tf
    rw [if_pos hc, tf, if_pos (by decide)]
  · rw [if_neg (show ¬ (at_ < 0 ∨ at_ > n + lens L ∨ ((1 : Int) ≠ 0 ∧ (1 : Int) ≠ 1)) by omega)] at tf
    rw [if_neg hc, tf, if_neg (by simp)]
    obtain ⟨p1, p2, p3⟩ := findP_is (dim := 1) (v := at_) (bias := 1) (.inr rfl) w2 (by rw [w3]; exact ff) (by rw [w3]; omega)
    rw [w3] at p1 p2 p3
    have bd := findC_bd (dim := 1) (v := at_) (bias := 1) (rowP n 0 L) 0 0 0 ff
    obtain ⟨j, j1, j2, j3⟩ := inS_find (at_ := at_) (rowP n 0 L) 0 0 0
    rw [w6, w7] at bd
    show (if (atT (some (buildT (rowP n 0 L), ())) (findP (buildT (rowP n 0 L)) 1 at_ 1).1).1.2.1 = 0 then
        (w64 ((findP (buildT (rowP n 0 L)) 1 at_ 1).2.1.2.1.1 + w64 (at_ - (findP (buildT (rowP n 0 L)) 1 at_ 1).2.1.2.1.2.1)), (0 : Int), (0 : Int), ())
      else if w64 (at_ - (findP (buildT (rowP n 0 L)) 1 at_ 1).2.1.2.1.2.1) = 0 then ((findP (buildT (rowP n 0 L)) 1 at_ 1).2.1.2.1.1, 0, 0, ())
      else ((findP (buildT (rowP n 0 L)) 1 at_ 1).2.1.2.1.1, (atT (some (buildT (rowP n 0 L), ())) (findP (buildT (rowP n 0 L)) 1 at_ 1).1).1.2.1, 0, ())) = _
    rw [p1, p2, p3, j3, j1]
    have ea : (atT (some (buildT (rowP n 0 L), ())) (0 + (j : Int))).1 = (rowP n 0 L).getD j zItm := by
      unfold atT
      have ei : items (topT (some (buildT (rowP n 0 L), ()))) = rowP n 0 L := w3
      rw [ei]
      by_cases hj : j < (rowP n 0 L).length
      · rw [if_neg (by omega)]
        show (rowP n 0 L).getD (0 + (j : Int)).toNat zItm = _
        congr 1
        omega
      · rw [if_pos (by omega)]
        rw [List.getD_eq_getElem?_getD, List.getElem?_eq_none (by omega)]
        rfl
    rw [ea]
    generalize findC 1 at_ 1 (rowP n 0 L) 0 0 0 = f at bd ⊢
    rw [w64_id (n := at_ - f.2.2) (by omega) (by omega), w64_id (by omega) (by omega)]
    split
    · rfl
    · split <;> rfl
theorem inS_end : (l : List Itm) → (b c at_ : Int) → Fine l → c + sum1 l ≤ at_ → inS at_ l b c = (b + sum0 l + (at_ - (c + sum1 l)), 0)
  | [], b, c, at_, _, _ => by
    show (b + (at_ - c), (0 : Int)) = (b + 0 + (at_ - (c + 0)), 0)
    congr 1
    omega
  | i :: l, b, c, at_, hf, h => by
    obtain ⟨f1, f2⟩ := fine_cons hf
    have b2 := sums_fine f2
    rw [sum1_cons] at h
    have e2 : inS at_ (i :: l) b c = if at_ < c + d1 i then (if i.2.1 = 0 then (b + (at_ - c), 0) else if at_ - c = 0 then (b, 0) else (b, i.2.1)) else inS at_ l (b + d0 i) (c + d1 i) := rfl
    rw [e2, if_neg (by omega), inS_end l _ _ _ f2 (by omega), sum0_cons, sum1_cons]
    congr 1
    omega
theorem refIn_ok {n : Int} {L : List Inl} (h0 : 0 ≤ n) (h1 : n ≤ 1099511627776) (hl : L.length ≤ 60) (hi : Inls 0 n L) {at_ : Int} (a0 : 0 ≤ at_) (a1 : at_ ≤ n + lens L) :
    refIn (n, L, 0, ()) at_ = ((inS at_ (rowP n 0 L) 0 0).1, (inS at_ (rowP n 0 L) 0 0).2, ()) := by
  obtain ⟨w1, w2, w3, w4, w5, w6, w7, w8, w9⟩ := weave_ok h0 h1 hl hi
  have ff := rowly_fine w5
  have el : (((expand 0 (rowP n 0 L)).length : Nat) : Int) = n + lens L := by rw [expand_len 0 w5, w7]
  unfold refIn
  rw [spots_ok h0 hi, el]
  by_cases he : at_ = n + lens L
  · rw [if_pos he, inS_end _ 0 0 at_ ff (by omega), w6, w7]
    show (n, (0 : Int), ()) = (0 + n + (at_ - (0 + (n + lens L))), 0, ())
    congr 1
    omega
  · rw [if_neg he]
    obtain ⟨j, j1, j2, j3, j4, j5, j6, j7, j8⟩ := in_spot 0 0 0 at_ w5 a0 (by rw [w7]; omega)
    obtain ⟨j', k1, k2, k3⟩ := inS_find (at_ := at_) (rowP n 0 L) 0 0 0
    have hj : j' = j := by omega
    subst hj
    rw [show at_ - 0 = at_ by omega] at j5
    rw [show at_ - 0 - 1 = at_ - 1 by omega] at j6 j7
    rw [j5, k3]
    generalize findC 1 at_ 1 (rowP n 0 L) 0 0 0 = f at j3 j4 j6 j7 ⊢
    generalize ((rowP n 0 L).getD j' zItm).2.1 = id at j6 j7 ⊢
    by_cases hid : id = 0
    · rw [if_pos hid, if_pos hid, if_pos (.inl hid)]
    · rw [if_neg hid, if_neg hid]
      by_cases hc : f.2.2 = at_
      · rw [if_pos (by omega : at_ - f.2.2 = 0)]
        rw [if_pos]
        by_cases ha : at_ = 0
        · exact .inr (.inl ha)
        · exact .inr (.inr (j7 hc (by omega)))
      · rw [if_neg (by omega : ¬ at_ - f.2.2 = 0)]
        rw [if_neg]
        rintro (h | h | h)
        · exact hid h
        · omega
        · exact h (j6 (by omega))
theorem high_wf {n : Nd} (h : WfN n) : highB (heightOf n) ((items n).length : Int) = true := by
  unfold highB
  rcases h with rfl | ⟨h, h1, w⟩
  · rfl
  · obtain ⟨e1, e2, e3⟩ := wf_height w
    obtain ⟨c1, c2⟩ := count_top h1 w
    rw [e1]
    rw [Bool.and_eq_true, Bool.and_eq_true, List.all_eq_true]
    refine ⟨fun j hj => ?_, ?_, ?_⟩
    · have hj := List.mem_range.1 hj
      have h2 : 2 ≤ h := by omega
      have c3 := c2 h2
      have c4 : 4 ^ (j + 1) ≤ 4 ^ (h - 1) := Nat.pow_le_pow_right (by decide) (by omega)
      rw [decide_eq_true_eq]
      have c5 : ((4 ^ (j + 1) : Nat) : Int) ≤ (((items n).length + 1 : Nat) : Int) := by omega
      rw [Int.natCast_pow] at c5
      exact c5
    · have a : decide ((h : Int) = 0) = false := by rw [decide_eq_false_iff_not]; omega
      have b : decide (((items n).length : Int) = 0) = false := by rw [decide_eq_false_iff_not]; omega
      rw [a, b]
      rfl
    · rw [decide_eq_true_eq]
      omega
theorem low_wf {n : Nd} (h : WfN n) (hl : (items n).length ≤ 127) : n = .nil ∨ ∃ h : Nat, h ≤ 3 ∧ Wf h true n := by
  rcases h with rfl | ⟨h, h1, w⟩
  · exact .inl rfl
  · refine .inr ⟨h, ?_, w⟩
    obtain ⟨c1, c2⟩ := count_top h1 w
    by_cases hh : h ≤ 3
    · exact hh
    · exfalso
      have c3 := c2 (by omega)
      have c4 : 4 ^ 3 ≤ 4 ^ (h - 1) := Nat.pow_le_pow_right (by decide) (by omega)
      omega
theorem is_ok {n : Int} {L : List Inl} (h0 : 0 ≤ n) (h1 : n ≤ 1099511627776) (hl : L.length ≤ 60) (hi : Inls 0 n L) {t : Nd} (ht : WfN t) (hit : items t = rowP n 0 L) : isW (some (some (t, ()), ())) (n, L, 0, ()) = true := by
  obtain ⟨w1, w2, w3, w4, w5, w6, w7, w8, w9⟩ := weave_ok h0 h1 hl hi
  have ff := rowly_fine w5
  have so := sum_top ht (by rw [hit]; exact ff) (by rw [hit]; omega)
  unfold SumOk at so
  rw [hit, w6, w7] at so
  obtain ⟨_, s0, s1⟩ := so
  have el : (((spots (n, L, 0, ())).length : Nat) : Int) = n + lens L := by rw [spots_ok h0 hi, expand_len 0 w5, w7]
  unfold isW
  rw [el]
  show (true && decide ((sumOf t).2.1.1 = n) && decide ((sumOf t).2.1.2.1 = n + lens L) && sameP (piecesI (some (t, ()))) (refPieces (n, L, 0, ())) && highB (heightOf t) ((items t).length : Int)) = true
  rw [s0, s1, high_wf ht]
  have ep : piecesI (some (t, ())) = refPieces (n, L, 0, ()) := by
    show (items t).map (fun i => ((i.2.1, i.2.2.1.2.1, ()) : Pce)) = (spots (n, L, 0, ())).foldl pceStep []
    rw [hit, spots_ok h0 hi, pieces_fold 0 [] w5 rfl]
    rfl
  rw [ep]
  simp [sameP]
theorem there_ok {n : Int} {L : List Inl} (h0 : 0 ≤ n) (h1 : n ≤ 1099511627776) (hl : L.length ≤ 60) (hi : Inls 0 n L) {at_ bias : Int} (a0 : 0 ≤ at_) (a1 : at_ ≤ n) (hb : bias = 0 ∨ bias = 1) :
    outW (weaveI (some (n, L, ()))) at_ bias = (at_ + lensA at_ bias L, 0, ()) ∧ inW (weaveI (some (n, L, ()))) (at_ + lensA at_ bias L) = (at_, 0, 0, ()) := by
  rw [out_ok h0 h1 hl hi, if_neg (by omega), in_ok h0 h1 hl hi]
  have := lensA_nn at_ bias L
  have := lensA_le at_ bias L
  have io := in_out (t := n) (v := at_) hb 0 0 L a0 a1 hi
  rw [show 0 + (at_ - 0) + lensA at_ bias L = at_ + lensA at_ bias L by omega] at io
  rw [if_neg (by omega), io]
  exact ⟨rfl, rfl⟩
end Go.Fr.Z14
