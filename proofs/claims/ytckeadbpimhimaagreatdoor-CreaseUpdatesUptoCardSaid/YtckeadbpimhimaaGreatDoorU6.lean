/-
  Texts on which the proofs of the seat's statements stand: a symbolic walk, its soundness, the functions' conditions and their proofs (6). Conditions: none.
-/
import Derived.Test.YtckeadbpimhimaaGreatDoorU5
namespace Go.Fr.Z16
open Go Go.Fr Go.Proofs
set_option maxRecDepth 100000
def hs8 : List (Nat × Nat × Hint) := [(0, 4, ⟨[.slot 28 t3], [1, 26, 27], [1], []⟩)]
def nm8 : List Nat := [3000000062]
noncomputable def E8 : Env := env tab [(24, cRefNew)] [] gl hs8 nm8
def vc8 : Prop :=
 ∀ (x : (Int × List Inl × List (Int × Int × Unit) × Unit) × Unit),
 let y := x.fst.snd.fst;
 let y_1 := x.fst.snd.snd.fst;
 let y_2 := x.fst.fst;
 let y_3 := longC x.fst;
 let y_4 := decide ((↑(List.length y_1) : Int) > (100 : Int));
 let y_5 := (↑(List.length y) : Int);
 List.length y ≤ maxLen ∧ List.length y_1 ≤ maxLen →
 (decide (y_2 < (0 : Int)) = true → true = y_3) ∧
 (decide (y_2 < (0 : Int)) = false →
 (decide (y_2 > (200 : Int)) = true → true = y_3) ∧
 (decide (y_2 > (200 : Int)) = false →
 (decide (y_5 > (60 : Int)) = true → true = y_3) ∧
 (decide (y_5 > (60 : Int)) = false →
 (y_4 = true → true = y_3) ∧
 (y_4 = false →
 (((0 : Int) = (0 : Int) ∧ True ∧ y = y ∧ y_5 = y_5) ∧ y_2 = y_2 ∧ y = y ∧ y_1 = y_1) ∧
 ∃ (Z : Int × Unit → Prop),
 ∃ (μ : Int × Unit → Nat),
 Z ((0 : Int), ()) ∧
 ∀ (a : Int),
 let y_6 :=  (↑(ByteArray.size (List.getD y (Int.toNat a) (Ty.dflt t68)).snd.snd.snd.snd.fst) : Int);
 let y_7 := IntKind.wrap IntKind.i64 (a + (1 : Int));
 Z (a, ()) →
 (decide (a < y_5) = true →
 ((0 : Int) ≤ a ∧ a < y_5) ∧
 (decide (y_6 > (200 : Int)) = true → true = y_3) ∧
 (decide (y_6 > (200 : Int)) = false →
 ((y_7 = y_7 ∧ True ∧ y = y ∧ y_5 = y_5) ∧ y_2 = y_2 ∧ y = y ∧ y_1 = y_1) ∧
 Z (y_7, ()) ∧ μ (y_7, ()) < μ (a, ()))) ∧
 (decide (a < y_5) = false →
 (List.length y ≤ maxLen ∧ shortL y) ∧
 ((newW y_2 y).snd.snd.fst != (0 : Int)) = y_3)))))
theorem vcEq8 : fnVC E8 Tryz.f8 (bodyOf Tryz.f8) cLongC = vc8 := by kernel_rfl
def hs9 : List (Nat × Nat × Hint) := [(0, 3, ⟨[.slot 5 t3, .slot 10 t3], [0, 8, 9], [], []⟩)]
def nm9 : List Nat := [3000000062]
noncomputable def E9 : Env := env tab [] [] gl hs9 nm9
def vc9 : Prop :=
 ∀ (x : Int × List (Int × Int × Unit) × Unit),
 let y := x.snd.fst;
 let y_1 := x.fst;
 let y_2 := (↑(List.length y) : Int);
 let y_3 := rightL y_1 (0 : Int) y;
 List.length y ≤ maxLen →
 ((0 : Int) = (0 : Int) ∧ (0 : Int) = (0 : Int) ∧ y_1 = y_1 ∧ y = y ∧ y_2 = y_2) ∧
 ∃ (Z : Int × Int × Unit → Prop),
 ∃ (μ : Int × Int × Unit → Nat),
 Z ((0 : Int), (0 : Int), ()) ∧
 ∀ (a a_1 : Int),
 let y_4 := (List.getD y (Int.toNat a_1) (Ty.dflt t46)).snd.fst;
 let y_5 := (List.getD y (Int.toNat a_1) (Ty.dflt t46)).fst;
 let y_6 := (a, a_1, ());
 let y_7 := IntKind.wrap IntKind.i64 (a_1 + (1 : Int));
 let y_8 := (y_4, y_7, ());
 let y_9 := decide (y_5 ≥ y_4);
 Z y_6 →
 (decide (a_1 < y_2) = true →
 ((0 : Int) ≤ a_1 ∧ a_1 < y_2) ∧
 (decide (y_5 < a) = true → false = y_3) ∧
 (decide (y_5 < a) = false →
 (y_9 = true → false = y_3) ∧
 (y_9 = false →
 (decide (y_4 > y_1) = true → false = y_3) ∧
 (decide (y_4 > y_1) = false →
 (y_7 = y_7 ∧ y_4 = y_4 ∧ y_1 = y_1 ∧ y = y ∧ y_2 = y_2) ∧ Z y_8 ∧ μ y_8 < μ y_6)))) ∧
 (decide (a_1 < y_2) = false → true = y_3)
theorem vcEq9 : fnVC E9 Tryz.f9 (bodyOf Tryz.f9) cRefRight = vc9 := by kernel_rfl
def hs11 : List (Nat × Nat × Hint) := []
def nm11 : List Nat := [3000000062]
noncomputable def E11 : Env := env tab [(35, cRightC), (36, cSizes), (39, cPlacesC), (38, cRowC), (37, cTreeNew)] [] gl hs11 nm11
def vc11 : Prop :=
 ∀
 (x :
 Option (Option (Nd × Unit) × Unit) ×
 List (Int × Int × Unit) × Unit),
 WfN (topT (treeOf x.fst)) ∧ List.length x.snd.fst ≤ (10000 : Nat) →
 List.length x.snd.fst ≤ maxLen ∧
 ((!rightL (nW x.fst) (0 : Int) x.snd.fst) = true → (none, (1 : Int), ()) = newC x.fst x.snd.fst) ∧
 ((!rightL (nW x.fst) (0 : Int) x.snd.fst) = false →
 True ∧
 (WfN (topT (treeOf x.fst)) ∧ List.length x.snd.fst ≤ (100000 : Nat)) ∧
 List.length (placesC x.fst x.snd.fst) ≤ (10000 : Nat) ∧
 List.length (rowC (sumOf (topT (treeOf x.fst))).snd.fst.snd.fst (0 : Int) (placesC x.fst x.snd.fst)) ≤
 (100000 : Nat) ∧
 (((newT
 (rowC (sumOf (topT (treeOf x.fst))).snd.fst.snd.fst (0 : Int)
 (placesC x.fst x.snd.fst))).snd.fst !=
 (0 : Int)) =
 true →
 (none,
 (newT
 (rowC (sumOf (topT (treeOf x.fst))).snd.fst.snd.fst (0 : Int)
 (placesC x.fst x.snd.fst))).snd) =
 newC x.fst x.snd.fst) ∧
 (((newT
 (rowC (sumOf (topT (treeOf x.fst))).snd.fst.snd.fst (0 : Int)
 (placesC x.fst x.snd.fst))).snd.fst !=
 (0 : Int)) =
 false →
 (some
 ((newT
 (rowC (sumOf (topT (treeOf x.fst))).snd.fst.snd.fst (0 : Int)
 (placesC x.fst x.snd.fst))).fst,
 ()),
 (0 : Int), ()) =
 newC x.fst x.snd.fst))
theorem vcEq11 : fnVC E11 Tryz.f11 (bodyOf Tryz.f11) cNewC = vc11 := by kernel_rfl
def hs12 : List (Nat × Nat × Hint) := []
def nm12 : List Nat := [3000000062]
noncomputable def E12 : Env := env tab [(32, cNew), (33, cWeave)] [] gl hs12 nm12
def vc12 : Prop :=
 ∀ (x : (Int × List Inl × List (Int × Int × Unit) × Unit) × Unit),
 List.length x.fst.snd.fst ≤ maxLen ∧ shortL x.fst.snd.fst →
 (List.length x.fst.snd.fst ≤ maxLen ∧ shortL x.fst.snd.fst) ∧
 (((newI x.fst.fst x.fst.snd.fst).snd.fst != (0 : Int)) = true → none = wovenT x.fst) ∧
 (((newI x.fst.fst x.fst.snd.fst).snd.fst != (0 : Int)) = false →
 (Option.isNone (newI x.fst.fst x.fst.snd.fst).fst = true → none = wovenT x.fst) ∧
 (Option.isNone (newI x.fst.fst x.fst.snd.fst).fst = false →
 (List.length (allI (newI x.fst.fst x.fst.snd.fst).fst) ≤ (10000 : Nat) ∧
 shortL (allI (newI x.fst.fst x.fst.snd.fst).fst)) ∧
 weaveI (newI x.fst.fst x.fst.snd.fst).fst = wovenT x.fst))
theorem vcEq12 : fnVC E12 Tryz.f12 (bodyOf Tryz.f12) cWoven = vc12 := by kernel_rfl
def hs13 : List (Nat × Nat × Hint) := []
def nm13 : List Nat := [3000000062]
noncomputable def E13 : Env := env tab [(24, cRefNew), (40, cSpots)] [] gl hs13 nm13
def vc13 : Prop :=
 ∀ (x : (Int × List Inl × List (Int × Int × Unit) × Unit) × Unit),
 okTxt x.fst ∧ smallW (newW x.fst.fst x.fst.snd.fst) →
 (List.length x.fst.snd.fst ≤ maxLen ∧ shortL x.fst.snd.fst) ∧
 smallW (newW x.fst.fst x.fst.snd.fst) ∧
 (↑(List.length (spots (newW x.fst.fst x.fst.snd.fst))) : Int) = sizeT x.fst
theorem vcEq13 : fnVC E13 Tryz.f13 (bodyOf Tryz.f13) cSizeT = vc13 := by kernel_rfl
def hs14 : List (Nat × Nat × Hint) := []
def nm14 : List Nat := [3000000062]
noncomputable def E14 : Env := env tab [(24, cRefNew), (41, cRefPlaces)] [] gl hs14 nm14
def vc14 : Prop :=
 ∀ (x : (Int × List Inl × List (Int × Int × Unit) × Unit) × Unit),
 okTxt x.fst ∧ smallW (newW x.fst.fst x.fst.snd.fst) →
 (List.length x.fst.snd.fst ≤ maxLen ∧ shortL x.fst.snd.fst) ∧
 (smallW (newW x.fst.fst x.fst.snd.fst) ∧ List.length x.fst.snd.snd.fst ≤ (100000 : Nat)) ∧
 refPlaces (newW x.fst.fst x.fst.snd.fst) x.fst.snd.snd.fst = placesT x.fst
theorem vcEq14 : fnVC E14 Tryz.f14 (bodyOf Tryz.f14) cPlacesT = vc14 := by kernel_rfl
def hs15 : List (Nat × Nat × Hint) := []
def nm15 : List Nat := [3000000062]
noncomputable def E15 : Env := env tab [(42, cTreeC), (43, cFind), (44, cAt)] [] gl hs15 nm15
def vc15 : Prop :=
 ∀ (x : Option (Option (Nd × Unit) × Unit) × Int × Unit),
 okTre (treeOf x.fst) →
 True ∧
 WfN (topT (treeOf x.fst)) ∧
 (((findT (treeOf x.fst) (0 : Int) x.snd.fst (1 : Int)).snd.fst != (0 : Int)) = true →
 ((0 : Int), (findT (treeOf x.fst) (0 : Int) x.snd.fst (1 : Int)).snd) = outCr x.fst x.snd.fst) ∧
 (((findT (treeOf x.fst) (0 : Int) x.snd.fst (1 : Int)).snd.fst != (0 : Int)) = false →
 True ∧
 okTre (treeOf x.fst) ∧
 (((atT (treeOf x.fst) (findT (treeOf x.fst) (0 : Int) x.snd.fst (1 : Int)).fst.fst).fst.fst ==
 (1 : Int)) =
 true →
 ((0 : Int) ≤ (1 : Int) ∧ (1 : Int) < (↑(3 : Nat) : Int)) ∧
 ((findT (treeOf x.fst) (0 : Int) x.snd.fst (1 : Int)).fst.snd.fst.snd.fst.snd.fst, (0 : Int),
 ()) =
 outCr x.fst x.snd.fst) ∧
 (((atT (treeOf x.fst) (findT (treeOf x.fst) (0 : Int) x.snd.fst (1 : Int)).fst.fst).fst.fst ==
 (1 : Int)) =
 false →
 ((0 : Int) ≤ (1 : Int) ∧ (1 : Int) < (↑(3 : Nat) : Int)) ∧
 ((0 : Int) ≤ (0 : Int) ∧ (0 : Int) < (↑(3 : Nat) : Int)) ∧
 (IntKind.wrap IntKind.i64
 (IntKind.wrap IntKind.i64
 ((findT (treeOf x.fst) (0 : Int) x.snd.fst (1 : Int)).fst.snd.fst.snd.fst.snd.fst +
 x.snd.fst) -
 (findT (treeOf x.fst) (0 : Int) x.snd.fst (1 : Int)).fst.snd.fst.snd.fst.fst),
 (0 : Int), ()) =
 outCr x.fst x.snd.fst))
theorem vcEq15 : fnVC E15 Tryz.f15 (bodyOf Tryz.f15) cOutC = vc15 := by kernel_rfl
def hs16 : List (Nat × Nat × Hint) := [(0, 3, ⟨[.slot 7 t3, .slot 15 t3], [1, 2, 13, 14], [], []⟩)]
def nm16 : List Nat := [3000000062]
noncomputable def E16 : Env := env tab [(18, cStarts), (45, cHides)] [] gl hs16 nm16
def vc16 : Prop :=
 ∀ (x : Int × List (Int × Int × Unit) × Int × Unit),
 let y := x.snd.fst;
 let y_1 := x.snd.snd.fst;
 let y_2 := x.fst;
 let y_3 := starts y_2 y;
 let y_4 := hidesI y y_1;
 let y_5 := refOutC y_2 y y_1;
 let y_6 := decide ((List.getD y (Int.toNat y_4) (Ty.dflt t46)).fst < y_1);
 let y_7 := (↑(List.length y_3) : Int);
 y_2 ≤ (1000000000 : Int) ∧ List.length y ≤ maxLen →
 (y_2 ≤ (1000000000 : Int) ∧ List.length y ≤ maxLen) ∧
 ((0 : Int) = (0 : Int) ∧ (0 : Int) = (0 : Int) ∧ y = y ∧ y_1 = y_1 ∧ y_3 = y_3 ∧ y_7 = y_7) ∧
 ∃ (Z : Int × Int × Unit → Prop),
 ∃ (μ : Int × Int × Unit → Nat),
 Z ((0 : Int), (0 : Int), ()) ∧
 ∀ (a : Int),
 let y_8 := IntKind.wrap IntKind.i64 (a + (1 : Int));
 ∀ (a_1 : Int),
 let y_9 := IntKind.wrap IntKind.i64 (a_1 + (1 : Int));
 let y_10 := (a, a_1, ());
 let y_11 := List.getD y_3 (Int.toNat a_1) (Ty.dflt t3);
 let y_12 := (y_9, ());
 let y_13 := (a, y_12);
 let y_14 := (y_8, y_12);
 Z y_10 →
 (decide (a_1 < y_7) = true →
 ((0 : Int) ≤ a_1 ∧ a_1 < y_7) ∧
 (decide (y_11 < y_1) = true →
 (y_9 = y_9 ∧ y_8 = y_8 ∧ y = y ∧ y_1 = y_1 ∧ y_3 = y_3 ∧ y_7 = y_7) ∧
 Z y_14 ∧ μ y_14 < μ y_10) ∧
 (decide (y_11 < y_1) = false →
 (y_9 = y_9 ∧ a = a ∧ y = y ∧ y_1 = y_1 ∧ y_3 = y_3 ∧ y_7 = y_7) ∧
 Z y_13 ∧ μ y_13 < μ y_10)) ∧
 (decide (a_1 < y_7) = false →
 List.length y ≤ maxLen ∧
 (decide (y_4 ≥ (0 : Int)) = true →
 ((0 : Int) ≤ y_4 ∧ y_4 < (↑(List.length y) : Int)) ∧
 (y_6 = true → IntKind.wrap IntKind.i64 (a - (1 : Int)) = y_5) ∧
 (y_6 = false → a = y_5)) ∧
 (decide (y_4 ≥ (0 : Int)) = false → a = y_5))
theorem vcEq16 : fnVC E16 Tryz.f16 (bodyOf Tryz.f16) cRefOutC = vc16 := by kernel_rfl
def hs17 : List (Nat × Nat × Hint) := []
def nm17 : List Nat := [3000000062]
noncomputable def E17 : Env := env tab [(42, cTreeC), (43, cFind)] [] gl hs17 nm17
def vc17 : Prop :=
 ∀ (x : Option (Option (Nd × Unit) × Unit) × Int × Unit),
 WfN (topT (treeOf x.fst)) →
 True ∧
 WfN (topT (treeOf x.fst)) ∧
 (((findT (treeOf x.fst) (1 : Int) x.snd.fst (1 : Int)).snd.fst != (0 : Int)) = true →
 ((0 : Int), (findT (treeOf x.fst) (1 : Int) x.snd.fst (1 : Int)).snd) = inCr x.fst x.snd.fst) ∧
 (((findT (treeOf x.fst) (1 : Int) x.snd.fst (1 : Int)).snd.fst != (0 : Int)) = false →
 ((0 : Int) ≤ (0 : Int) ∧ (0 : Int) < (↑(3 : Nat) : Int)) ∧
 ((0 : Int) ≤ (1 : Int) ∧ (1 : Int) < (↑(3 : Nat) : Int)) ∧
 (IntKind.wrap IntKind.i64
 (IntKind.wrap IntKind.i64
 ((findT (treeOf x.fst) (1 : Int) x.snd.fst (1 : Int)).fst.snd.fst.snd.fst.fst + x.snd.fst) -
 (findT (treeOf x.fst) (1 : Int) x.snd.fst (1 : Int)).fst.snd.fst.snd.fst.snd.fst),
 (0 : Int), ()) =
 inCr x.fst x.snd.fst)
theorem vcEq17 : fnVC E17 Tryz.f17 (bodyOf Tryz.f17) cInC = vc17 := by kernel_rfl
def hs18 : List (Nat × Nat × Hint) := [(0, 3, ⟨[.rowS 5 900000005 t3 3, .slot 6 t3], [0, 1], [], []⟩)]
def nm18 : List Nat := [3000000062]
noncomputable def E18 : Env := env tab [(45, cHides)] [] gl hs18 nm18
def vc18 : Prop :=
 ∀ (x : Int × List (Int × Int × Unit) × Unit),
 let y := x.snd.fst;
 let y_1 := x.fst;
 y_1 ≤ (1000000000 : Int) ∧ List.length y ≤ maxLen →
 (((0 : Int) = (0 : Int) ∧ True ∧ y_1 = y_1 ∧ y = y) ∧ True ∧ True) ∧
 ∃ (Z : List Int × Int × Unit → Prop),
 ∃ (μ : List Int × Int × Unit → Nat),
 Z ([], (0 : Int), ()) ∧
 ∀ (a : List Int) (a_1 : Int),
 let y_2 := (a ++ [a_1], IntKind.wrap IntKind.i64 (a_1 + (1 : Int)), ());
 let y_3 := (a, a_1, ());
 let y_4 := IntKind.wrap IntKind.i64 (a_1 + (1 : Int));
 let y_5 := a ++ [a_1];
 let y_6 := List.length a + List.length [a_1];
 let y_7 := (List.getD y (Int.toNat (hidesI y a_1)) (Ty.dflt t46)).fst == a_1;
 let y_8 := (a, y_4, ());
 Z y_3 →
 (decide (a_1 < y_1) = true →
 List.length y ≤ maxLen ∧
 (decide (hidesI y a_1 < (0 : Int)) = true →
 y_6 * (8 : Nat) ≤ (140737488355328 : Nat) ∧
 y_6 ≤ maxLen ∧
 ((y_4 = y_4 ∧ True ∧ y_1 = y_1 ∧ y = y) ∧ y_5 = y_5 ∧ True) ∧ Z y_2 ∧ μ y_2 < μ y_3) ∧
 (decide (hidesI y a_1 < (0 : Int)) = false →
 ((0 : Int) ≤ hidesI y a_1 ∧ hidesI y a_1 < (↑(List.length y) : Int)) ∧
 (y_7 = true →
 y_6 * (8 : Nat) ≤ (140737488355328 : Nat) ∧
 y_6 ≤ maxLen ∧
 ((y_4 = y_4 ∧ True ∧ y_1 = y_1 ∧ y = y) ∧ y_5 = y_5 ∧ True) ∧
 Z y_2 ∧ μ y_2 < μ y_3) ∧
 (y_7 = false →
 ((y_4 = y_4 ∧ True ∧ y_1 = y_1 ∧ y = y) ∧ a = a ∧ True) ∧ Z y_8 ∧ μ y_8 < μ y_3))) ∧
 (decide (a_1 < y_1) = false → a = starts y_1 y)
theorem vcEq18 : fnVC E18 Tryz.f18 (bodyOf Tryz.f18) cStarts = vc18 := by kernel_rfl
def hs19 : List (Nat × Nat × Hint) := []
def nm19 : List Nat := [3000000062]
noncomputable def E19 : Env := env tab [(18, cStarts)] [] gl hs19 nm19
def vc19 : Prop :=
 ∀ (x : Int × List (Int × Int × Unit) × Int × Unit),
 x.fst ≤ (1000000000 : Int) ∧
 List.length x.snd.fst ≤ maxLen ∧
 (0 : Int) ≤ x.snd.snd.fst ∧ x.snd.snd.fst ≤ (↑(List.length (starts x.fst x.snd.fst)) : Int) →
 (x.fst ≤ (1000000000 : Int) ∧ List.length x.snd.fst ≤ maxLen) ∧
 ((x.snd.snd.fst == (↑(List.length (starts x.fst x.snd.fst)) : Int)) = true →
 x.fst = refInC x.fst x.snd.fst x.snd.snd.fst) ∧
 ((x.snd.snd.fst == (↑(List.length (starts x.fst x.snd.fst)) : Int)) = false →
 ((0 : Int) ≤ x.snd.snd.fst ∧ x.snd.snd.fst < (↑(List.length (starts x.fst x.snd.fst)) : Int)) ∧
 List.getD (starts x.fst x.snd.fst) (Int.toNat x.snd.snd.fst) (Ty.dflt t3) =
 refInC x.fst x.snd.fst x.snd.snd.fst)
theorem vcEq19 : fnVC E19 Tryz.f19 (bodyOf Tryz.f19) cRefInC = vc19 := by kernel_rfl
def hs20 : List (Nat × Nat × Hint) := []
def nm20 : List Nat := [3000000062]
noncomputable def E20 : Env := env tab [(42, cTreeC), (46, cSum)] [] gl hs20 nm20
def vc20 : Prop :=
 ∀ (x : Option (Option (Nd × Unit) × Unit) × Unit),
 True →
 True ∧
 True ∧
 ((0 : Int) ≤ (0 : Int) ∧ (0 : Int) < (↑(3 : Nat) : Int)) ∧
 ((0 : Int) ≤ (1 : Int) ∧ (1 : Int) < (↑(3 : Nat) : Int)) ∧
 ((sumOf (topT (treeOf x.fst))).snd.fst.fst, (sumOf (topT (treeOf x.fst))).snd.fst.snd.fst, ()) =
 (nW x.fst, mW x.fst, ())
theorem vcEq20 : fnVC E20 Tryz.f20 (bodyOf Tryz.f20) cSizesC = vc20 := by kernel_rfl
def hs21 : List (Nat × Nat × Hint) := [(0, 6, ⟨[.slot 22 t3], [0, 3, 5, 6, 20, 21], [3], []⟩)]
def nm21 : List Nat := [3000000062]
noncomputable def E21 : Env := env tab [(47, cPiecesC), (13, cSizeT), (14, cPlacesT), (48, cRefPiecesC), (20, cSizesC), (18, cStarts), (34, cHeightC), (49, cHigh)] [] gl hs21 nm21
def vc21 : Prop :=
 ∀
 (x :
 Option (Option (Nd × Unit) × Unit) ×
 (Int × List Inl × List (Int × Int × Unit) × Unit) × Unit),
 let y := x.snd.fst;
 let y_1 := x.fst;
 let y_2 := (↑(List.length (piecesC (treeOf y_1))) : Int);
 let y_3 := y.snd.fst;
 let y_4 := (↑(List.length (refPiecesC (sizeT y) (placesT y))) : Int);
 let y_5 := y.snd.snd.fst;
 let y_6 := isC y_1 y;
 let y_7 := y.fst;
 let y_8 := refPiecesC (sizeT y) (placesT y);
 let y_9 := mW y_1 == (↑(List.length (starts (sizeT y) (placesT y))) : Int);
 let y_10 := y_2 == y_4;
 let y_11 := newW y_7 y_3;
 okTxt y ∧ smallW y_11 ∧ lowT (topT (treeOf y_1)) →
 (Option.isNone y_1 = true → false = y_6) ∧
 (Option.isNone y_1 = false →
 lowT (topT (treeOf y_1)) ∧
 (okTxt y ∧ smallW y_11) ∧
 (okTxt y ∧ smallW y_11) ∧
 (sizeT y ≤ (1000000000 : Int) ∧ List.length (placesT y) ≤ maxLen) ∧
 (((0 : Int) = (0 : Int) ∧
 y_1 = y_1 ∧
 True ∧
 piecesC (treeOf y_1) = piecesC (treeOf y_1) ∧
 y_8 = y_8 ∧ piecesC (treeOf y_1) = piecesC (treeOf y_1) ∧ y_2 = y_2) ∧
 y_7 = y_7 ∧ y_3 = y_3 ∧ y_5 = y_5) ∧
 ∃ (Z : Int × Unit → Prop),
 ∃ (μ : Int × Unit → Nat),
 Z ((0 : Int), ()) ∧
 ∀ (a : Int),
 let y_12 :=  (List.getD (piecesC (treeOf y_1)) (Int.toNat a) (Ty.dflt t105)).snd.fst !=  (List.getD y_8 (Int.toNat a) (Ty.dflt t106)).snd.fst;
 let y_13 := IntKind.wrap IntKind.i64 (a + (1 : Int));
 let y_14 :=  (List.getD (piecesC (treeOf y_1)) (Int.toNat a) (Ty.dflt t105)).fst !=  (List.getD y_8 (Int.toNat a) (Ty.dflt t106)).fst;
 Z (a, ()) →
 (decide (a < y_2) = true →
 ((0 : Int) ≤ a ∧ a < y_2) ∧
 (decide (a ≥ y_4) = true → false = y_6) ∧
 (decide (a ≥ y_4) = false →
 ((0 : Int) ≤ a ∧ a < y_4) ∧
 (y_14 = true → false = y_6) ∧
 (y_14 = false →
 ((0 : Int) ≤ a ∧ a < y_4) ∧
 (y_12 = true → false = y_6) ∧
 (y_12 = false →
 ((y_13 = y_13 ∧
 y_1 = y_1 ∧
 True ∧
 piecesC (treeOf y_1) = piecesC (treeOf y_1) ∧
 y_8 = y_8 ∧
 piecesC (treeOf y_1) = piecesC (treeOf y_1) ∧
 y_2 = y_2) ∧
 y_7 = y_7 ∧ y_3 = y_3 ∧ y_5 = y_5) ∧
 Z (y_13, ()) ∧ μ (y_13, ()) < μ (a, ()))))) ∧
 (decide (a < y_2) = false →
 True ∧
 (y_10 = true →
 (okTxt y ∧ smallW y_11) ∧
 ((nW y_1 == sizeT y) = true →
 (okTxt y ∧ smallW y_11) ∧
 (okTxt y ∧ smallW y_11) ∧
 (sizeT y ≤ (1000000000 : Int) ∧ List.length (placesT y) ≤ maxLen) ∧
 (y_9 = true →
 True ∧
 (heightOf (topT (treeOf y_1)) ≤ (1000 : Int) ∧
 (0 : Int) ≤ y_2 ∧ y_2 ≤ (1000000 : Int)) ∧
 highB (heightOf (topT (treeOf y_1))) y_2 = y_6) ∧
 (y_9 = false → false = y_6)) ∧
 ((nW y_1 == sizeT y) = false → false = y_6)) ∧
 (y_10 = false → false = y_6)))
theorem vcEq21 : fnVC E21 Tryz.f21 (bodyOf Tryz.f21) cIsC = vc21 := by kernel_rfl
def hs27 : List (Nat × Nat × Hint) := []
def nm27 : List Nat := [3000000062]
noncomputable def E27 : Env := env tab [(20, cSizesC), (36, cSizes), (35, cRightC), (56, cFits), (39, cPlacesC), (57, cWithinC), (58, cEdges), (42, cTreeC), (38, cRowC), (59, cReplace)] [] gl hs27 nm27
def vc27 : Prop :=
 ∀
 (x :
 Option (Option (Nd × Unit) × Unit) ×
 (Int × Int × Unit) ×
 (Int × Int × Unit) ×
 Option (Option (Nd × Unit) × Unit) ×
 List (Int × Int × Unit) × Unit),
 let y := x.snd.snd;
 let y_1 := x.snd.fst;
 let y_2 := x.fst;
 let y_3 := (edgesC y_2 y_1 y.fst).snd;
 let y_4 :=  replT (treeOf y_2) (edgesC y_2 y_1 y.fst).fst y_3.fst  (rowC y_3.snd.fst.snd.fst y_3.snd.fst.fst (withinC (placesC y.snd.fst y.snd.snd.fst) y.fst).fst);
 let y_5 := updC y_2 y_1 y.fst y.snd.fst y.snd.snd.fst;
 let y_6 := y_3.snd;
 let y_7 := y.snd;
 let y_8 := y_1.fst != y.fst.fst;
 let y_9 :=  IntKind.wrap IntKind.i64 (nW y_2 - y_1.snd.fst) !=  IntKind.wrap IntKind.i64 ((sumOf (topT (treeOf y_7.fst))).snd.fst.snd.fst - y.fst.snd.fst);
 let y_10 := y_7.snd.fst;
 let y_11 := y_7.fst;
 let y_12 := !fitsW y.fst (sumOf (topT (treeOf y_11))).snd.fst.snd.fst;
 let y := withinC (placesC y_11 y_10) y.fst;
 let y_13 := y_4.snd.fst != (0 : Int);
 okTre (treeOf y_2) ∧ WfN (topT (treeOf y_11)) ∧ List.length y_10 ≤ (10000 : Nat) →
 True ∧
 True ∧
 List.length y_10 ≤ maxLen ∧
 ((!rightL (nW y_11) (0 : Int) y_10) = true → (none, (1 : Int), ()) = y_5) ∧
 ((!rightL (nW y_11) (0 : Int) y_10) = false →
 True ∧
 ((!fitsW y_1 (nW y_2)) = true → (none, (1 : Int), ()) = y_5) ∧
 ((!fitsW y_1 (nW y_2)) = false →
 True ∧
 (y_12 = true → (none, (1 : Int), ()) = y_5) ∧
 (y_12 = false →
 (y_8 = true → (none, (1 : Int), ()) = y_5) ∧
 (y_8 = false →
 (y_9 = true → (none, (1 : Int), ()) = y_5) ∧
 (y_9 = false →
 (WfN (topT (treeOf y_11)) ∧ List.length y_10 ≤ (100000 : Nat)) ∧
 List.length (placesC y_11 y_10) ≤ (100000 : Nat) ∧
 okTre (treeOf y_2) ∧
 ((!y.snd.fst) = true → (none, (1 : Int), ()) = y_5) ∧
 ((!y.snd.fst) = false →
 ((!y_6.snd.fst) = true → (none, (1 : Int), ()) = y_5) ∧
 ((!y_6.snd.fst) = false →
 True ∧
 List.length y.fst ≤ (10000 : Nat) ∧
 (okTre (treeOf y_2) ∧
 List.length (rowC y_6.fst.snd.fst y_6.fst.fst y.fst) ≤
 (100000 : Nat)) ∧
 (y_13 = true → (none, y_4.snd) = y_5) ∧
 (y_13 = false →
 (some (y_4.fst, ()), (0 : Int), ()) = y_5))))))))
theorem vcEq27 : fnVC E27 Tryz.f27 (bodyOf Tryz.f27) cUpdC = vc27 := by kernel_rfl
def hs29 : List (Nat × Nat × Hint) := [(0, 2, ⟨[.slot 9 t3], [1, 7, 8], [], []⟩)]
def nm29 : List Nat := [3000000062]
noncomputable def E29 : Env := env tab [] [] gl hs29 nm29
def vc29 : Prop :=
 ∀ (x : List (Int × Int × Unit) × Int × Unit),
 List.length x.fst ≤ maxLen →
 ((0 : Int) = (0 : Int) ∧
 x.snd.fst = x.snd.fst ∧ x.fst = x.fst ∧ (↑(List.length x.fst) : Int) = (↑(List.length x.fst) : Int)) ∧
 ∃ (Z : Int × Unit → Prop),
 ∃ (μ : Int × Unit → Nat),
 Z ((0 : Int), ()) ∧
 ∀ (a : Int),
 Z (a, ()) →
 (decide (a < (↑(List.length x.fst) : Int)) = true →
 ((0 : Int) ≤ a ∧ a < (↑(List.length x.fst) : Int)) ∧
 (decide ((List.getD x.fst (Int.toNat a) (Ty.dflt t46)).fst < x.snd.fst) = true →
 (decide (x.snd.fst < (List.getD x.fst (Int.toNat a) (Ty.dflt t46)).snd.fst) = true →
 true = acrossL x.fst x.snd.fst) ∧
 (decide (x.snd.fst < (List.getD x.fst (Int.toNat a) (Ty.dflt t46)).snd.fst) = false →
 (IntKind.wrap IntKind.i64 (a + (1 : Int)) = IntKind.wrap IntKind.i64 (a + (1 : Int)) ∧
 x.snd.fst = x.snd.fst ∧
 x.fst = x.fst ∧ (↑(List.length x.fst) : Int) = (↑(List.length x.fst) : Int)) ∧
 Z (IntKind.wrap IntKind.i64 (a + (1 : Int)), ()) ∧
 μ (IntKind.wrap IntKind.i64 (a + (1 : Int)), ()) < μ (a, ()))) ∧
 (decide ((List.getD x.fst (Int.toNat a) (Ty.dflt t46)).fst < x.snd.fst) = false →
 (IntKind.wrap IntKind.i64 (a + (1 : Int)) = IntKind.wrap IntKind.i64 (a + (1 : Int)) ∧
 x.snd.fst = x.snd.fst ∧
 x.fst = x.fst ∧ (↑(List.length x.fst) : Int) = (↑(List.length x.fst) : Int)) ∧
 Z (IntKind.wrap IntKind.i64 (a + (1 : Int)), ()) ∧
 μ (IntKind.wrap IntKind.i64 (a + (1 : Int)), ()) < μ (a, ()))) ∧
 (decide (a < (↑(List.length x.fst) : Int)) = false → false = acrossL x.fst x.snd.fst)
theorem vcEq29 : fnVC E29 Tryz.f29 (bodyOf Tryz.f29) cAcrossL = vc29 := by kernel_rfl
def hs30 : List (Nat × Nat × Hint) := [(0, 3, ⟨[.rowS 7 900000007 t68 68, .slot 16 t3], [1, 5, 8, 14, 15], [5], [58, 900000008]⟩),
  (0, 9, ⟨[.rowS 8 900000008 t68 68, .slot 39 t3], [5, 7, 37, 38], [5], [35, 900000007]⟩),
  (0, 15, ⟨[.slot 62 t3], [7, 8, 61], [], [35, 900000007, 58, 900000008]⟩)]
def nm30 : List Nat := [3000000062]
noncomputable def E30 : Env := env tab [] [] gl hs30 nm30
def vc30 : Prop :=
 ∀
 (x :
 List Inl ×
 List Inl × (Int × Int × Unit) × Unit),
 let y := x.snd.snd.fst;
 let y_1 := x.snd.fst;
 let y_2 := x.fst;
 let y_3 := (↑(List.length y_2) : Int);
 let y_4 := (↑(List.length y_1) : Int);
 let y_5 := y.snd.fst;
 let y_6 := y.fst;
 let y := besideB y_2 y_1 y;
 List.length y_2 ≤ (100000 : Nat) ∧ List.length y_1 ≤ (100000 : Nat) →
 (((0 : Int) = (0 : Int) ∧
 True ∧
 y_1 = y_1 ∧
 True ∧
 Value.slice none (0 : Nat) (0 : Nat) = Value.slice none (0 : Nat) (0 : Nat) ∧ y_2 = y_2 ∧ y_3 = y_3) ∧
 (y_6 = y_6 ∧ y_5 = y_5) ∧ True ∧ True) ∧
 ∃ (Z : List Inl × Int × Unit → Prop),
 ∃ (μ : List Inl × Int × Unit → Nat),
 Z ([], (0 : Int), ()) ∧
 ∀ (a : List Inl),
 let y_7 := (↑(List.length a) : Int);
 ∀ (a_1 : Int),
 let y_8 :=  (a ++ [List.getD y_2 (Int.toNat a_1) (Ty.dflt t68)], IntKind.wrap IntKind.i64 (a_1 + (1 : Int)), ());
 let y_9 := (List.getD y_2 (Int.toNat a_1) (Ty.dflt t68)).snd.fst;
 let y_10 := (a, a_1, ());
 let y_11 := IntKind.wrap IntKind.i64 (a_1 + (1 : Int));
 let y_12 := a ++ [List.getD y_2 (Int.toNat a_1) (Ty.dflt t68)];
 let y_13 := List.length a + List.length [List.getD y_2 (Int.toNat a_1) (Ty.dflt t68)];
 let y_14 := (a, y_11, ());
 Z y_10 →
 (decide (a_1 < y_3) = true →
 ((0 : Int) ≤ a_1 ∧ a_1 < y_3) ∧
 (decide (y_9 < y_6) = true →
 y_13 * (48 : Nat) ≤ (140737488355328 : Nat) ∧
 y_13 ≤ maxLen ∧
 ((y_11 = y_11 ∧
 True ∧
 y_1 = y_1 ∧
 True ∧
 Value.slice none (0 : Nat) (0 : Nat) =
 Value.slice none (0 : Nat) (0 : Nat) ∧
 y_2 = y_2 ∧ y_3 = y_3) ∧
 (y_6 = y_6 ∧ y_5 = y_5) ∧ y_12 = y_12 ∧ True) ∧
 Z y_8 ∧ μ y_8 < μ y_10) ∧
 (decide (y_9 < y_6) = false →
 (decide (y_9 > y_5) = true →
 y_13 * (48 : Nat) ≤ (140737488355328 : Nat) ∧
 y_13 ≤ maxLen ∧
 ((y_11 = y_11 ∧
 True ∧
 y_1 = y_1 ∧
 True ∧
 Value.slice none (0 : Nat) (0 : Nat) =
 Value.slice none (0 : Nat) (0 : Nat) ∧
 y_2 = y_2 ∧ y_3 = y_3) ∧
 (y_6 = y_6 ∧ y_5 = y_5) ∧ y_12 = y_12 ∧ True) ∧
 Z y_8 ∧ μ y_8 < μ y_10) ∧
 (decide (y_9 > y_5) = false →
 ((y_11 = y_11 ∧
 True ∧
 y_1 = y_1 ∧
 True ∧
 Value.slice none (0 : Nat) (0 : Nat) =
 Value.slice none (0 : Nat) (0 : Nat) ∧
 y_2 = y_2 ∧ y_3 = y_3) ∧
 (y_6 = y_6 ∧ y_5 = y_5) ∧ a = a ∧ True) ∧
 Z y_14 ∧ μ y_14 < μ y_10))) ∧
 (decide (a_1 < y_3) = false →
 (((0 : Int) = (0 : Int) ∧ True ∧ True ∧ True ∧ y_1 = y_1 ∧ y_4 = y_4) ∧
 (y_6 = y_6 ∧ y_5 = y_5) ∧ True ∧ a = a ∧ True) ∧
 ∃ (Z : List Inl × Int × Unit → Prop),
 ∃ (μ : List Inl × Int × Unit → Nat),
 Z ([], (0 : Int), ()) ∧
 ∀ (a_4 : List Inl),
 let y_15 := (↑(List.length a_4) : Int);
 ∀ (a_5 : Int),
 let y_16 :=  (a_4 ++ [List.getD y_1 (Int.toNat a_5) (Ty.dflt t68)],  IntKind.wrap IntKind.i64 (a_5 + (1 : Int)), ());
 let y_17 := (List.getD y_1 (Int.toNat a_5) (Ty.dflt t68)).snd.fst;
 let y_18 := (a_4, a_5, ());
 let y_19 := IntKind.wrap IntKind.i64 (a_5 + (1 : Int));
 let y_20 := a_4 ++ [List.getD y_1 (Int.toNat a_5) (Ty.dflt t68)];
 let y_21 :=  List.length a_4 + List.length [List.getD y_1 (Int.toNat a_5) (Ty.dflt t68)];
 let y_22 := (a_4, y_19, ());
 Z y_18 →
 (decide (a_5 < y_4) = true →
 ((0 : Int) ≤ a_5 ∧ a_5 < y_4) ∧
 (decide (y_17 < y_6) = true →
 y_21 * (48 : Nat) ≤ (140737488355328 : Nat) ∧
 y_21 ≤ maxLen ∧
 ((y_19 = y_19 ∧ True ∧ True ∧ True ∧ y_1 = y_1 ∧ y_4 = y_4) ∧
 (y_6 = y_6 ∧ y_5 = y_5) ∧ y_20 = y_20 ∧ a = a ∧ True) ∧
 Z y_16 ∧ μ y_16 < μ y_18) ∧
 (decide (y_17 < y_6) = false →
 (decide (y_17 > y_5) = true →
 y_21 * (48 : Nat) ≤ (140737488355328 : Nat) ∧
 y_21 ≤ maxLen ∧
 ((y_19 = y_19 ∧ True ∧ True ∧ True ∧ y_1 = y_1 ∧ y_4 = y_4) ∧
 (y_6 = y_6 ∧ y_5 = y_5) ∧ y_20 = y_20 ∧ a = a ∧ True) ∧
 Z y_16 ∧ μ y_16 < μ y_18) ∧
 (decide (y_17 > y_5) = false →
 ((y_19 = y_19 ∧ True ∧ True ∧ True ∧ y_1 = y_1 ∧ y_4 = y_4) ∧
 (y_6 = y_6 ∧ y_5 = y_5) ∧ a_4 = a_4 ∧ a = a ∧ True) ∧
 Z y_22 ∧ μ y_22 < μ y_18))) ∧
 (decide (a_5 < y_4) = false →
 (((0 : Int) = (0 : Int) ∧ True ∧ True ∧ y_7 = y_7) ∧ a = a ∧ a_4 = a_4 ∧ True) ∧
 ∃ (Z : Int × Unit → Prop),
 ∃ (μ : Int × Unit → Nat),
 Z ((0 : Int), ()) ∧
 ∀ (a_8 : Int),
 let y_23 := IntKind.wrap IntKind.i64 (a_8 + (1 : Int));
 Z (a_8, ()) →
 (decide (a_8 < y_7) = true →
 (decide (a_8 ≥ y_15) = true → false = y) ∧
 (decide (a_8 ≥ y_15) = false →
 ((0 : Int) ≤ a_8 ∧ a_8 < y_7) ∧
 ((0 : Int) ≤ a_8 ∧ a_8 < y_15) ∧
 ((!Ty.beq t68
 (List.getD a (Int.toNat a_8) (Ty.dflt t68))
 (List.getD a_4 (Int.toNat a_8)
 (Ty.dflt t68))) =
 true →
 false = y) ∧
 ((!Ty.beq t68
 (List.getD a (Int.toNat a_8) (Ty.dflt t68))
 (List.getD a_4 (Int.toNat a_8)
 (Ty.dflt t68))) =
 false →
 ((y_23 = y_23 ∧ True ∧ True ∧ y_7 = y_7) ∧
 a = a ∧ a_4 = a_4 ∧ True) ∧
 Z (y_23, ()) ∧ μ (y_23, ()) < μ (a_8, ())))) ∧
 (decide (a_8 < y_7) = false → (y_7 == y_15) = y)))
theorem vcEq30 : fnVC E30 Tryz.f30 (bodyOf Tryz.f30) cBeside = vc30 := by kernel_rfl
def hs31 : List (Nat × Nat × Hint) := [(0, 3, ⟨[.rowS 7 900000007 t46 46, .slot 17 t3], [1, 5, 8, 15, 16], [5], [62, 80, 900000008]⟩),
  (0, 10, ⟨[.rowS 8 900000008 t46 46, .slot 49 t3], [5, 7, 11, 47, 48], [5], [38, 900000007]⟩),
  (0, 18, ⟨[.slot 84 t3], [7, 8, 83], [], [38, 900000007, 62, 80, 900000008]⟩)]
def nm31 : List Nat := [3000000062]
noncomputable def E31 : Env := env tab [] [] gl hs31 nm31
def vc31 : Prop :=
 ∀ (x : List (Int × Int × Unit) × List (Int × Int × Unit) × ((Int × Int × Unit) × (Int × Int × Unit) × Unit) × Unit),
 let y := x.snd.snd.fst;
 let y_1 := x.snd.fst;
 let y_2 := x.fst;
 let y_3 := (↑(List.length y_2) : Int);
 let y_4 := (↑(List.length y_1) : Int);
 let y_5 := IntKind.wrap IntKind.i64 (y.snd.fst.snd.fst - y.fst.snd.fst);
 let y_6 := y.snd.fst;
 let y_7 := y.fst.snd.fst;
 let y_8 := y.fst.fst;
 let y_9 := y_6.snd.fst;
 let y_10 := y_6.fst;
 let y := outsideB y_2 y_1 y.fst y_6;
 List.length y_2 ≤ (100000 : Nat) ∧ List.length y_1 ≤ (100000 : Nat) →
 (((0 : Int) = (0 : Int) ∧
 True ∧
 y_1 = y_1 ∧
 True ∧
 Value.slice none (0 : Nat) (0 : Nat) = Value.slice none (0 : Nat) (0 : Nat) ∧ y_2 = y_2 ∧ y_3 = y_3) ∧
 (y_8 = y_8 ∧ y_7 = y_7 ∧ y_10 = y_10 ∧ y_9 = y_9) ∧ True ∧ True) ∧
 ∃ (Z : List (Int × Int × Unit) × Int × Unit → Prop),
 ∃ (μ : List (Int × Int × Unit) × Int × Unit → Nat),
 Z ([], (0 : Int), ()) ∧
 ∀ (a : List (Int × Int × Unit)),
 let y_11 := (↑(List.length a) : Int);
 ∀ (a_1 : Int),
 let y_12 :=  (a ++ [List.getD y_2 (Int.toNat a_1) (Ty.dflt t46)], IntKind.wrap IntKind.i64 (a_1 + (1 : Int)), ());
 let y_13 := (a, a_1, ());
 let y_14 := List.getD y_2 (Int.toNat a_1) (Ty.dflt t46);
 let y_15 := IntKind.wrap IntKind.i64 (a_1 + (1 : Int));
 let y_16 := (a, y_15, ());
 let y_17 := a ++ [y_14];
 let y_18 := List.length a + List.length [y_14];
 let y_19 := y_14.snd.fst;
 let y_20 := y_14.fst;
 Z y_13 →
 (decide (a_1 < y_3) = true →
 ((0 : Int) ≤ a_1 ∧ a_1 < y_3) ∧
 ((0 : Int) ≤ (0 : Int) ∧ (0 : Int) < (↑(2 : Nat) : Int)) ∧
 (decide (y_19 ≤ y_8) = true →
 y_18 * (16 : Nat) ≤ (140737488355328 : Nat) ∧
 y_18 ≤ maxLen ∧
 ((y_15 = y_15 ∧
 True ∧
 y_1 = y_1 ∧
 True ∧
 Value.slice none (0 : Nat) (0 : Nat) =
 Value.slice none (0 : Nat) (0 : Nat) ∧
 y_2 = y_2 ∧ y_3 = y_3) ∧
 (y_8 = y_8 ∧ y_7 = y_7 ∧ y_10 = y_10 ∧ y_9 = y_9) ∧ y_17 = y_17 ∧ True) ∧
 Z y_12 ∧ μ y_12 < μ y_13) ∧
 (decide (y_19 ≤ y_8) = false →
 ((0 : Int) ≤ (0 : Int) ∧ (0 : Int) < (↑(2 : Nat) : Int)) ∧
 (decide (y_20 ≥ y_7) = true →
 y_18 * (16 : Nat) ≤ (140737488355328 : Nat) ∧
 y_18 ≤ maxLen ∧
 ((y_15 = y_15 ∧
 True ∧
 y_1 = y_1 ∧
 True ∧
 Value.slice none (0 : Nat) (0 : Nat) =
 Value.slice none (0 : Nat) (0 : Nat) ∧
 y_2 = y_2 ∧ y_3 = y_3) ∧
 (y_8 = y_8 ∧ y_7 = y_7 ∧ y_10 = y_10 ∧ y_9 = y_9) ∧ y_17 = y_17 ∧ True) ∧
 Z y_12 ∧ μ y_12 < μ y_13) ∧
 (decide (y_20 ≥ y_7) = false →
 ((y_15 = y_15 ∧
 True ∧
 y_1 = y_1 ∧
 True ∧
 Value.slice none (0 : Nat) (0 : Nat) =
 Value.slice none (0 : Nat) (0 : Nat) ∧
 y_2 = y_2 ∧ y_3 = y_3) ∧
 (y_8 = y_8 ∧ y_7 = y_7 ∧ y_10 = y_10 ∧ y_9 = y_9) ∧ a = a ∧ True) ∧
 Z y_16 ∧ μ y_16 < μ y_13))) ∧
 (decide (a_1 < y_3) = false →
 ((0 : Int) ≤ (1 : Int) ∧ (1 : Int) < (↑(2 : Nat) : Int)) ∧
 ((0 : Int) ≤ (0 : Int) ∧ (0 : Int) < (↑(2 : Nat) : Int)) ∧
 (((0 : Int) = (0 : Int) ∧ True ∧ True ∧ True ∧ y_5 = y_5 ∧ y_1 = y_1 ∧ y_4 = y_4) ∧
 (y_8 = y_8 ∧ y_7 = y_7 ∧ y_10 = y_10 ∧ y_9 = y_9) ∧ True ∧ a = a ∧ True) ∧
 ∃ (Z : List (Int × Int × Unit) × Int × Unit → Prop),
 ∃ (μ : List (Int × Int × Unit) × Int × Unit → Nat),
 Z ([], (0 : Int), ()) ∧
 ∀ (a_4 : List (Int × Int × Unit)),
 let y_21 := (↑(List.length a_4) : Int);
 ∀ (a_5 : Int),
 let y_22 :=  [(IntKind.wrap IntKind.i64  ((List.getD y_1 (Int.toNat a_5) (Ty.dflt t46)).fst - y_5),  IntKind.wrap IntKind.i64  ((List.getD y_1 (Int.toNat a_5) (Ty.dflt t46)).snd.fst - y_5),  ())];
 let y_23 := IntKind.wrap IntKind.i64 (a_5 + (1 : Int));
 let y_24 := (a_4, a_5, ());
 let y_25 := List.getD y_1 (Int.toNat a_5) (Ty.dflt t46);
 let y_26 := a_4 ++ [y_25];
 let y_27 := y_25.snd.fst;
 let y_28 := y_25.fst;
 let y_29 := (y_26, y_23, ());
 let y_30 := (a_4, y_23, ());
 let y_31 := (a_4 ++ y_22, y_23, ());
 Z y_24 →
 (decide (a_5 < y_4) = true →
 ((0 : Int) ≤ a_5 ∧ a_5 < y_4) ∧
 ((0 : Int) ≤ (1 : Int) ∧ (1 : Int) < (↑(2 : Nat) : Int)) ∧
 (decide (y_27 ≤ y_10) = true →
 (List.length a_4 + List.length [y_25]) * (16 : Nat) ≤
 (140737488355328 : Nat) ∧
 List.length a_4 + List.length [y_25] ≤ maxLen ∧
 ((y_23 = y_23 ∧
 True ∧ True ∧ True ∧ y_5 = y_5 ∧ y_1 = y_1 ∧ y_4 = y_4) ∧
 (y_8 = y_8 ∧ y_7 = y_7 ∧ y_10 = y_10 ∧ y_9 = y_9) ∧
 y_26 = y_26 ∧ a = a ∧ True) ∧
 Z y_29 ∧ μ y_29 < μ y_24) ∧
 (decide (y_27 ≤ y_10) = false →
 ((0 : Int) ≤ (1 : Int) ∧ (1 : Int) < (↑(2 : Nat) : Int)) ∧
 (decide (y_28 ≥ y_9) = true →
 (List.length a_4 + List.length y_22) * (16 : Nat) ≤
 (140737488355328 : Nat) ∧
 List.length a_4 + List.length y_22 ≤ maxLen ∧
 ((y_23 = y_23 ∧
 True ∧
 True ∧ True ∧ y_5 = y_5 ∧ y_1 = y_1 ∧ y_4 = y_4) ∧
 (y_8 = y_8 ∧ y_7 = y_7 ∧ y_10 = y_10 ∧ y_9 = y_9) ∧
 a_4 ++ y_22 = a_4 ++ y_22 ∧ a = a ∧ True) ∧
 Z y_31 ∧ μ y_31 < μ y_24) ∧
 (decide (y_28 ≥ y_9) = false →
 ((y_23 = y_23 ∧
 True ∧
 True ∧ True ∧ y_5 = y_5 ∧ y_1 = y_1 ∧ y_4 = y_4) ∧
 (y_8 = y_8 ∧ y_7 = y_7 ∧ y_10 = y_10 ∧ y_9 = y_9) ∧
 a_4 = a_4 ∧ a = a ∧ True) ∧
 Z y_30 ∧ μ y_30 < μ y_24))) ∧
 (decide (a_5 < y_4) = false →
 (((0 : Int) = (0 : Int) ∧ True ∧ True ∧ y_11 = y_11) ∧
 a = a ∧ a_4 = a_4 ∧ True) ∧
 ∃ (Z : Int × Unit → Prop),
 ∃ (μ : Int × Unit → Nat),
 Z ((0 : Int), ()) ∧
 ∀ (a_8 : Int),
 let y_32 := IntKind.wrap IntKind.i64 (a_8 + (1 : Int));
 Z (a_8, ()) →
 (decide (a_8 < y_11) = true →
 (decide (a_8 ≥ y_21) = true → false = y) ∧
 (decide (a_8 ≥ y_21) = false →
 ((0 : Int) ≤ a_8 ∧ a_8 < y_11) ∧
 ((0 : Int) ≤ a_8 ∧ a_8 < y_21) ∧
 ((!Ty.beq t46
 (List.getD a (Int.toNat a_8)
 (Ty.dflt t46))
 (List.getD a_4 (Int.toNat a_8)
 (Ty.dflt t46))) =
 true →
 false = y) ∧
 ((!Ty.beq t46
 (List.getD a (Int.toNat a_8)
 (Ty.dflt t46))
 (List.getD a_4 (Int.toNat a_8)
 (Ty.dflt t46))) =
 false →
 ((y_32 = y_32 ∧ True ∧ True ∧ y_11 = y_11) ∧
 a = a ∧ a_4 = a_4 ∧ True) ∧
 Z (y_32, ()) ∧ μ (y_32, ()) < μ (a_8, ())))) ∧
 (decide (a_8 < y_11) = false → (y_11 == y_21) = y)))
theorem vcEq31 : fnVC E31 Tryz.f31 (bodyOf Tryz.f31) cOutside = vc31 := by kernel_rfl
def hs34 : List (Nat × Nat × Hint) := []
def nm34 : List Nat := [3000000062]
noncomputable def E34 : Env := env tab [(42, cTreeC), (67, cHeightT)] [] gl hs34 nm34
def vc34 : Prop :=
 ∀ (x : Option (Option (Nd × Unit) × Unit) × Unit),
 True → True ∧ True ∧ heightOf (topT (treeOf x.fst)) = heightOf (topT (treeOf x.fst))
theorem vcEq34 : fnVC E34 Tryz.f34 (bodyOf Tryz.f34) cHeightC = vc34 := by kernel_rfl
def hs35 : List (Nat × Nat × Hint) := [(0, 4, ⟨[.slot 7 t3, .slot 17 t3], [5, 15, 16], [], []⟩)]
def nm35 : List Nat := [3000000062]
noncomputable def E35 : Env := env tab [(36, cSizes)] [] gl hs35 nm35
def vc35 : Prop :=
 ∀
 (x :
 Option (Option (Nd × Unit) × Unit) ×
 List (Int × Int × Unit) × Unit),
 let y := x.snd.fst;
 let y_1 := (sumOf (topT (treeOf x.fst))).snd.fst.fst;
 let y_2 := (↑(List.length y) : Int);
 let y_3 := rightL (nW x.fst) (0 : Int) y;
 List.length y ≤ maxLen →
 True ∧
 ((0 : Int) = (0 : Int) ∧ (0 : Int) = (0 : Int) ∧ y_1 = y_1 ∧ y = y ∧ y_2 = y_2) ∧
 ∃ (Z : Int × Int × Unit → Prop),
 ∃ (μ : Int × Int × Unit → Nat),
 Z ((0 : Int), (0 : Int), ()) ∧
 ∀ (a a_1 : Int),
 let y_4 := (List.getD y (Int.toNat a_1) (Ty.dflt t46)).snd.fst;
 let y_5 := (List.getD y (Int.toNat a_1) (Ty.dflt t46)).fst;
 let y_6 := (a, a_1, ());
 let y_7 := IntKind.wrap IntKind.i64 (a_1 + (1 : Int));
 let y_8 := (y_4, y_7, ());
 let y_9 := decide (y_4 ≤ y_5);
 Z y_6 →
 (decide (a_1 < y_2) = true →
 ((0 : Int) ≤ a_1 ∧ a_1 < y_2) ∧
 (decide (y_5 < a) = true → false = y_3) ∧
 (decide (y_5 < a) = false →
 (y_9 = true → false = y_3) ∧
 (y_9 = false →
 (decide (y_4 > y_1) = true → false = y_3) ∧
 (decide (y_4 > y_1) = false →
 (y_7 = y_7 ∧ y_4 = y_4 ∧ y_1 = y_1 ∧ y = y ∧ y_2 = y_2) ∧
 Z y_8 ∧ μ y_8 < μ y_6)))) ∧
 (decide (a_1 < y_2) = false → true = y_3)
theorem vcEq35 : fnVC E35 Tryz.f35 (bodyOf Tryz.f35) cRightC = vc35 := by kernel_rfl
def hs38 : List (Nat × Nat × Hint) := [(0, 3, ⟨[.slot 0 t3, .rowS 7 900000007 t95 95, .slot 12 t3], [1, 10, 11], [], []⟩)]
def nm38 : List Nat := [3000000062]
noncomputable def E38 : Env := env tab [(72, cPlainC), (73, cFoldC)] [] gl hs38 nm38
def vc38 : Prop :=
 ∀ (x : Int × Int × List (Int × Int × Unit) × Unit),
 let y := x.snd.snd.fst;
 let y_1 := x.snd.fst;
 let y_2 := x.fst;
 let y_3 := (↑(List.length y) : Int);
 let y_4 := rowC y_1 y_2 y;
 List.length y ≤ (10000 : Nat) →
 (((0 : Int) = (0 : Int) ∧ True ∧ y_2 = y_2 ∧ y_1 = y_1 ∧ y = y ∧ y_3 = y_3) ∧ True ∧ True) ∧
 ∃ (Z : Int × List Itm × Int × Unit → Prop),
 ∃ (μ : Int × List Itm × Int × Unit → Nat),
 Z (y_2, [], (0 : Int), ()) ∧
 ∀ (a : Int),
 let y_5 := [plainC (IntKind.wrap IntKind.i64 (y_1 - a))];
 ∀ (a_1 : List Itm) (a_2 : Int),
 let y_6 :=  [foldC  (IntKind.wrap IntKind.i64  ((List.getD y (Int.toNat a_2) (Ty.dflt t46)).snd.fst -  (List.getD y (Int.toNat a_2) (Ty.dflt t46)).fst))];
 let y_7 := (a, a_1, a_2, ());
 let y_8 := (List.getD y (Int.toNat a_2) (Ty.dflt t46)).fst;
 let y_9 := (List.getD y (Int.toNat a_2) (Ty.dflt t46)).snd.fst;
 let y_10 := IntKind.wrap IntKind.i64 (a_2 + (1 : Int));
 let y_11 := [plainC (IntKind.wrap IntKind.i64 (y_8 - a))];
 let y_12 := a_1 ++ y_11 ++ y_6;
 let y_13 := (y_9, a_1 ++ y_6, y_10, ());
 let y_14 := List.length (a_1 ++ y_11) + List.length y_6;
 let y_15 := (y_9, y_12, y_10, ());
 Z y_7 →
 (decide (a_2 < y_3) = true →
 ((0 : Int) ≤ a_2 ∧ a_2 < y_3) ∧
 (decide (y_8 > a) = true →
 True ∧
 (List.length a_1 + List.length y_11) * (64 : Nat) ≤ (140737488355328 : Nat) ∧
 List.length a_1 + List.length y_11 ≤ maxLen ∧
 True ∧
 y_14 * (64 : Nat) ≤ (140737488355328 : Nat) ∧
 y_14 ≤ maxLen ∧
 ((y_10 = y_10 ∧ True ∧ y_9 = y_9 ∧ y_1 = y_1 ∧ y = y ∧ y_3 = y_3) ∧
 y_12 = y_12 ∧ True) ∧
 Z y_15 ∧ μ y_15 < μ y_7) ∧
 (decide (y_8 > a) = false →
 True ∧
 (List.length a_1 + List.length y_6) * (64 : Nat) ≤ (140737488355328 : Nat) ∧
 List.length a_1 + List.length y_6 ≤ maxLen ∧
 ((y_10 = y_10 ∧ True ∧ y_9 = y_9 ∧ y_1 = y_1 ∧ y = y ∧ y_3 = y_3) ∧
 a_1 ++ y_6 = a_1 ++ y_6 ∧ True) ∧
 Z y_13 ∧ μ y_13 < μ y_7)) ∧
 (decide (a_2 < y_3) = false →
 (decide (y_1 > a) = true →
 True ∧
 (List.length a_1 + List.length y_5) * (64 : Nat) ≤ (140737488355328 : Nat) ∧
 List.length a_1 + List.length y_5 ≤ maxLen ∧ a_1 ++ y_5 = y_4) ∧
 (decide (y_1 > a) = false → a_1 = y_4))
theorem vcEq38 : fnVC E38 Tryz.f38 (bodyOf Tryz.f38) cRowC = vc38 := by kernel_rfl
def hs39 : List (Nat × Nat × Hint) := [(0, 3, ⟨[.rowS 5 900000005 t46 46, .slot 14 t3], [0, 12, 13], [], []⟩)]
def nm39 : List Nat := [3000000062]
noncomputable def E39 : Env := env tab [(74, cOut)] [] gl hs39 nm39
def vc39 : Prop :=
 ∀
 (x :
 Option (Option (Nd × Unit) × Unit) ×
 List (Int × Int × Unit) × Unit),
 let y := x.snd.fst;
 let y_1 := x.fst;
 let y_2 := (↑(List.length y) : Int);
 WfN (topT (treeOf y_1)) ∧ List.length y ≤ (100000 : Nat) →
 (((0 : Int) = (0 : Int) ∧ True ∧ y_1 = y_1 ∧ y = y ∧ y_2 = y_2) ∧ True ∧ True) ∧
 ∃ (Z : List (Int × Int × Unit) × Int × Unit → Prop),
 ∃ (μ : List (Int × Int × Unit) × Int × Unit → Nat),
 Z ([], (0 : Int), ()) ∧
 ∀ (a : List (Int × Int × Unit)) (a_1 : Int),
 let y_3 :=  [((outW y_1 (List.getD y (Int.toNat a_1) (Ty.dflt t46)).fst (1 : Int)).fst,  (outW y_1 (List.getD y (Int.toNat a_1) (Ty.dflt t46)).snd.fst (0 : Int)).fst, ())];
 let y_4 := (a, a_1, ());
 let y_5 := IntKind.wrap IntKind.i64 (a_1 + (1 : Int));
 let y_6 := (a ++ y_3, y_5, ());
 Z y_4 →
 (decide (a_1 < y_2) = true →
 ((0 : Int) ≤ a_1 ∧ a_1 < y_2) ∧
 WfN (topT (treeOf y_1)) ∧
 WfN (topT (treeOf y_1)) ∧
 (List.length a + List.length y_3) * (16 : Nat) ≤ (140737488355328 : Nat) ∧
 List.length a + List.length y_3 ≤ maxLen ∧
 ((y_5 = y_5 ∧ True ∧ y_1 = y_1 ∧ y = y ∧ y_2 = y_2) ∧ a ++ y_3 = a ++ y_3 ∧ True) ∧
 Z y_6 ∧ μ y_6 < μ y_4) ∧
 (decide (a_1 < y_2) = false → a = placesC y_1 y)
theorem vcEq39 : fnVC E39 Tryz.f39 (bodyOf Tryz.f39) cPlacesC = vc39 := by kernel_rfl
def hs41 : List (Nat × Nat × Hint) := [(0, 3, ⟨[.rowS 5 900000005 t46 46, .slot 10 t3], [2, 8, 9], [2], []⟩)]
def nm41 : List Nat := [3000000062, 4000000005]
noncomputable def E41 : Env := env tab [(26, cRefOut)] [] gl hs41 nm41
def vc41 : Prop :=
 ∀ (x : (Int × List Inl × Int × Unit) × List (Int × Int × Unit) × Unit),
 let y := x.snd.fst;
 let y_1 := x.fst;
 let y_2 := y_1.snd.snd.fst;
 let y_3 := y_1.snd.fst;
 let y_4 := y_1.fst;
 let y_5 := (↑(List.length y) : Int);
 smallW y_1 ∧ List.length y ≤ (100000 : Nat) →
 (((0 : Int) = (0 : Int) ∧ True ∧ True ∧ y = y ∧ y_5 = y_5) ∧ (y_4 = y_4 ∧ y_3 = y_3 ∧ y_2 = y_2) ∧ True ∧ True) ∧
 ∃ (Z : List (Int × Int × Unit) × Int × Unit → Prop),
 ∃ (μ : List (Int × Int × Unit) × Int × Unit → Nat),
 Z ([], (0 : Int), ()) ∧
 ∀ (a : List (Int × Int × Unit)),
 let y_6 := List.length a;
 ∀ (a_1 : Int),
 let y_7 :=  [(refOut y_1 (List.getD y (Int.toNat a_1) (Ty.dflt t46)).fst (1 : Int),  refOut y_1 (List.getD y (Int.toNat a_1) (Ty.dflt t46)).snd.fst (0 : Int), ())];
 let y_8 := (a, a_1, ());
 let y_9 := IntKind.wrap IntKind.i64 (a_1 + (1 : Int));
 let y_10 := (a ++ y_7, y_9, ());
 let y_11 := a ++ y_7;
 let y_12 := (y_6 + List.length y_7) * (16 : Nat);
 let y_13 := y_6 + List.length y_7;
 Z y_8 →
 (decide (a_1 < y_5) = true →
 ((0 : Int) ≤ a_1 ∧ a_1 < y_5) ∧
 (((smallW y_1 ∧
 (smallW y_1 ∧
 y_12 ≤ (140737488355328 : Nat) ∧
 y_13 ≤ maxLen ∧
 ((y_9 = y_9 ∧ True ∧ True ∧ y = y ∧ y_5 = y_5) ∧
 (y_4 = y_4 ∧ y_3 = y_3 ∧ y_2 = y_2) ∧ y_11 = y_11 ∧ True) ∧
 Z y_10 ∧ μ y_10 < μ y_8) ∧
 smallW y_1 ∧
 y_12 ≤ (140737488355328 : Nat) ∧
 y_13 ≤ maxLen ∧
 ((y_9 = y_9 ∧ True ∧ True ∧ y = y ∧ y_5 = y_5) ∧
 (y_4 = y_4 ∧ y_3 = y_3 ∧ y_2 = y_2) ∧ y_11 = y_11 ∧ True) ∧
 Z y_10 ∧ μ y_10 < μ y_8) ∧
 ((smallW y_1 ∧
 smallW y_1 ∧
 y_12 ≤ (140737488355328 : Nat) ∧
 y_13 ≤ maxLen ∧
 ((y_9 = y_9 ∧ True ∧ True ∧ y = y ∧ y_5 = y_5) ∧
 (y_4 = y_4 ∧ y_3 = y_3 ∧ y_2 = y_2) ∧ y_11 = y_11 ∧ True) ∧
 Z y_10 ∧ μ y_10 < μ y_8) ∧
 smallW y_1 ∧
 smallW y_1 ∧
 y_12 ≤ (140737488355328 : Nat) ∧
 y_13 ≤ maxLen ∧
 ((y_9 = y_9 ∧ True ∧ True ∧ y = y ∧ y_5 = y_5) ∧
 (y_4 = y_4 ∧ y_3 = y_3 ∧ y_2 = y_2) ∧ y_11 = y_11 ∧ True) ∧
 Z y_10 ∧ μ y_10 < μ y_8) ∧
 (smallW y_1 ∧
 smallW y_1 ∧
 y_12 ≤ (140737488355328 : Nat) ∧
 y_13 ≤ maxLen ∧
 ((y_9 = y_9 ∧ True ∧ True ∧ y = y ∧ y_5 = y_5) ∧
 (y_4 = y_4 ∧ y_3 = y_3 ∧ y_2 = y_2) ∧ y_11 = y_11 ∧ True) ∧
 Z y_10 ∧ μ y_10 < μ y_8) ∧
 smallW y_1 ∧
 smallW y_1 ∧
 y_12 ≤ (140737488355328 : Nat) ∧
 y_13 ≤ maxLen ∧
 ((y_9 = y_9 ∧ True ∧ True ∧ y = y ∧ y_5 = y_5) ∧
 (y_4 = y_4 ∧ y_3 = y_3 ∧ y_2 = y_2) ∧ y_11 = y_11 ∧ True) ∧
 Z y_10 ∧ μ y_10 < μ y_8) ∧
 (((smallW y_1 ∧
 smallW y_1 ∧
 y_12 ≤ (140737488355328 : Nat) ∧
 y_13 ≤ maxLen ∧
 ((y_9 = y_9 ∧ True ∧ True ∧ y = y ∧ y_5 = y_5) ∧
 (y_4 = y_4 ∧ y_3 = y_3 ∧ y_2 = y_2) ∧ y_11 = y_11 ∧ True) ∧
 Z y_10 ∧ μ y_10 < μ y_8) ∧
 smallW y_1 ∧
 smallW y_1 ∧
 y_12 ≤ (140737488355328 : Nat) ∧
 y_13 ≤ maxLen ∧
 ((y_9 = y_9 ∧ True ∧ True ∧ y = y ∧ y_5 = y_5) ∧
 (y_4 = y_4 ∧ y_3 = y_3 ∧ y_2 = y_2) ∧ y_11 = y_11 ∧ True) ∧
 Z y_10 ∧ μ y_10 < μ y_8) ∧
 smallW y_1 ∧
 smallW y_1 ∧
 y_12 ≤ (140737488355328 : Nat) ∧
 y_13 ≤ maxLen ∧
 ((y_9 = y_9 ∧ True ∧ True ∧ y = y ∧ y_5 = y_5) ∧
 (y_4 = y_4 ∧ y_3 = y_3 ∧ y_2 = y_2) ∧ y_11 = y_11 ∧ True) ∧
 Z y_10 ∧ μ y_10 < μ y_8) ∧
 ((smallW y_1 ∧
 smallW y_1 ∧
 y_12 ≤ (140737488355328 : Nat) ∧
 y_13 ≤ maxLen ∧
 ((y_9 = y_9 ∧ True ∧ True ∧ y = y ∧ y_5 = y_5) ∧
 (y_4 = y_4 ∧ y_3 = y_3 ∧ y_2 = y_2) ∧ y_11 = y_11 ∧ True) ∧
 Z y_10 ∧ μ y_10 < μ y_8) ∧
 smallW y_1 ∧
 smallW y_1 ∧
 y_12 ≤ (140737488355328 : Nat) ∧
 y_13 ≤ maxLen ∧
 ((y_9 = y_9 ∧ True ∧ True ∧ y = y ∧ y_5 = y_5) ∧
 (y_4 = y_4 ∧ y_3 = y_3 ∧ y_2 = y_2) ∧ y_11 = y_11 ∧ True) ∧
 Z y_10 ∧ μ y_10 < μ y_8) ∧
 smallW y_1 ∧
 smallW y_1 ∧
 y_12 ≤ (140737488355328 : Nat) ∧
 y_13 ≤ maxLen ∧
 ((y_9 = y_9 ∧ True ∧ True ∧ y = y ∧ y_5 = y_5) ∧
 (y_4 = y_4 ∧ y_3 = y_3 ∧ y_2 = y_2) ∧ y_11 = y_11 ∧ True) ∧
 Z y_10 ∧ μ y_10 < μ y_8) ∧
 (((smallW y_1 ∧
 (smallW y_1 ∧
 y_12 ≤ (140737488355328 : Nat) ∧
 y_13 ≤ maxLen ∧
 ((y_9 = y_9 ∧ True ∧ True ∧ y = y ∧ y_5 = y_5) ∧
 (y_4 = y_4 ∧ y_3 = y_3 ∧ y_2 = y_2) ∧ y_11 = y_11 ∧ True) ∧
 Z y_10 ∧ μ y_10 < μ y_8) ∧
 smallW y_1 ∧
 y_12 ≤ (140737488355328 : Nat) ∧
 y_13 ≤ maxLen ∧
 ((y_9 = y_9 ∧ True ∧ True ∧ y = y ∧ y_5 = y_5) ∧
 (y_4 = y_4 ∧ y_3 = y_3 ∧ y_2 = y_2) ∧ y_11 = y_11 ∧ True) ∧
 Z y_10 ∧ μ y_10 < μ y_8) ∧
 ((smallW y_1 ∧
 smallW y_1 ∧
 y_12 ≤ (140737488355328 : Nat) ∧
 y_13 ≤ maxLen ∧
 ((y_9 = y_9 ∧ True ∧ True ∧ y = y ∧ y_5 = y_5) ∧
 (y_4 = y_4 ∧ y_3 = y_3 ∧ y_2 = y_2) ∧ y_11 = y_11 ∧ True) ∧
 Z y_10 ∧ μ y_10 < μ y_8) ∧
 smallW y_1 ∧
 smallW y_1 ∧
 y_12 ≤ (140737488355328 : Nat) ∧
 y_13 ≤ maxLen ∧
 ((y_9 = y_9 ∧ True ∧ True ∧ y = y ∧ y_5 = y_5) ∧
 (y_4 = y_4 ∧ y_3 = y_3 ∧ y_2 = y_2) ∧ y_11 = y_11 ∧ True) ∧
 Z y_10 ∧ μ y_10 < μ y_8) ∧
 (smallW y_1 ∧
 smallW y_1 ∧
 y_12 ≤ (140737488355328 : Nat) ∧
 y_13 ≤ maxLen ∧
 ((y_9 = y_9 ∧ True ∧ True ∧ y = y ∧ y_5 = y_5) ∧
 (y_4 = y_4 ∧ y_3 = y_3 ∧ y_2 = y_2) ∧ y_11 = y_11 ∧ True) ∧
 Z y_10 ∧ μ y_10 < μ y_8) ∧
 smallW y_1 ∧
 smallW y_1 ∧
 y_12 ≤ (140737488355328 : Nat) ∧
 y_13 ≤ maxLen ∧
 ((y_9 = y_9 ∧ True ∧ True ∧ y = y ∧ y_5 = y_5) ∧
 (y_4 = y_4 ∧ y_3 = y_3 ∧ y_2 = y_2) ∧ y_11 = y_11 ∧ True) ∧
 Z y_10 ∧ μ y_10 < μ y_8) ∧
 (((smallW y_1 ∧
 smallW y_1 ∧
 y_12 ≤ (140737488355328 : Nat) ∧
 y_13 ≤ maxLen ∧
 ((y_9 = y_9 ∧ True ∧ True ∧ y = y ∧ y_5 = y_5) ∧
 (y_4 = y_4 ∧ y_3 = y_3 ∧ y_2 = y_2) ∧ y_11 = y_11 ∧ True) ∧
 Z y_10 ∧ μ y_10 < μ y_8) ∧
 smallW y_1 ∧
 smallW y_1 ∧
 y_12 ≤ (140737488355328 : Nat) ∧
 y_13 ≤ maxLen ∧
 ((y_9 = y_9 ∧ True ∧ True ∧ y = y ∧ y_5 = y_5) ∧
 (y_4 = y_4 ∧ y_3 = y_3 ∧ y_2 = y_2) ∧ y_11 = y_11 ∧ True) ∧
 Z y_10 ∧ μ y_10 < μ y_8) ∧
 smallW y_1 ∧
 smallW y_1 ∧
 y_12 ≤ (140737488355328 : Nat) ∧
 y_13 ≤ maxLen ∧
 ((y_9 = y_9 ∧ True ∧ True ∧ y = y ∧ y_5 = y_5) ∧
 (y_4 = y_4 ∧ y_3 = y_3 ∧ y_2 = y_2) ∧ y_11 = y_11 ∧ True) ∧
 Z y_10 ∧ μ y_10 < μ y_8) ∧
 ((smallW y_1 ∧
 smallW y_1 ∧
 y_12 ≤ (140737488355328 : Nat) ∧
 y_13 ≤ maxLen ∧
 ((y_9 = y_9 ∧ True ∧ True ∧ y = y ∧ y_5 = y_5) ∧
 (y_4 = y_4 ∧ y_3 = y_3 ∧ y_2 = y_2) ∧ y_11 = y_11 ∧ True) ∧
 Z y_10 ∧ μ y_10 < μ y_8) ∧
 smallW y_1 ∧
 smallW y_1 ∧
 y_12 ≤ (140737488355328 : Nat) ∧
 y_13 ≤ maxLen ∧
 ((y_9 = y_9 ∧ True ∧ True ∧ y = y ∧ y_5 = y_5) ∧
 (y_4 = y_4 ∧ y_3 = y_3 ∧ y_2 = y_2) ∧ y_11 = y_11 ∧ True) ∧
 Z y_10 ∧ μ y_10 < μ y_8) ∧
 smallW y_1 ∧
 smallW y_1 ∧
 y_12 ≤ (140737488355328 : Nat) ∧
 y_13 ≤ maxLen ∧
 ((y_9 = y_9 ∧ True ∧ True ∧ y = y ∧ y_5 = y_5) ∧
 (y_4 = y_4 ∧ y_3 = y_3 ∧ y_2 = y_2) ∧ y_11 = y_11 ∧ True) ∧
 Z y_10 ∧ μ y_10 < μ y_8) ∧
 ((((smallW y_1 ∧
 smallW y_1 ∧
 y_12 ≤ (140737488355328 : Nat) ∧
 y_13 ≤ maxLen ∧
 ((y_9 = y_9 ∧ True ∧ True ∧ y = y ∧ y_5 = y_5) ∧
 (y_4 = y_4 ∧ y_3 = y_3 ∧ y_2 = y_2) ∧ y_11 = y_11 ∧ True) ∧
 Z y_10 ∧ μ y_10 < μ y_8) ∧
 smallW y_1 ∧
 smallW y_1 ∧
 y_12 ≤ (140737488355328 : Nat) ∧
 y_13 ≤ maxLen ∧
 ((y_9 = y_9 ∧ True ∧ True ∧ y = y ∧ y_5 = y_5) ∧
 (y_4 = y_4 ∧ y_3 = y_3 ∧ y_2 = y_2) ∧ y_11 = y_11 ∧ True) ∧
 Z y_10 ∧ μ y_10 < μ y_8) ∧
 smallW y_1 ∧
 smallW y_1 ∧
 y_12 ≤ (140737488355328 : Nat) ∧
 y_13 ≤ maxLen ∧
 ((y_9 = y_9 ∧ True ∧ True ∧ y = y ∧ y_5 = y_5) ∧
 (y_4 = y_4 ∧ y_3 = y_3 ∧ y_2 = y_2) ∧ y_11 = y_11 ∧ True) ∧
 Z y_10 ∧ μ y_10 < μ y_8) ∧
 (((smallW y_1 ∧
 smallW y_1 ∧
 y_12 ≤ (140737488355328 : Nat) ∧
 y_13 ≤ maxLen ∧
 ((y_9 = y_9 ∧ True ∧ True ∧ y = y ∧ y_5 = y_5) ∧
 (y_4 = y_4 ∧ y_3 = y_3 ∧ y_2 = y_2) ∧ y_11 = y_11 ∧ True) ∧
 Z y_10 ∧ μ y_10 < μ y_8) ∧
 smallW y_1 ∧
 smallW y_1 ∧
 y_12 ≤ (140737488355328 : Nat) ∧
 y_13 ≤ maxLen ∧
 ((y_9 = y_9 ∧ True ∧ True ∧ y = y ∧ y_5 = y_5) ∧
 (y_4 = y_4 ∧ y_3 = y_3 ∧ y_2 = y_2) ∧ y_11 = y_11 ∧ True) ∧
 Z y_10 ∧ μ y_10 < μ y_8) ∧
 smallW y_1 ∧
 smallW y_1 ∧
 y_12 ≤ (140737488355328 : Nat) ∧
 y_13 ≤ maxLen ∧
 ((y_9 = y_9 ∧ True ∧ True ∧ y = y ∧ y_5 = y_5) ∧
 (y_4 = y_4 ∧ y_3 = y_3 ∧ y_2 = y_2) ∧ y_11 = y_11 ∧ True) ∧
 Z y_10 ∧ μ y_10 < μ y_8) ∧
 (smallW y_1 ∧
 smallW y_1 ∧
 y_12 ≤ (140737488355328 : Nat) ∧
 y_13 ≤ maxLen ∧
 ((y_9 = y_9 ∧ True ∧ True ∧ y = y ∧ y_5 = y_5) ∧
 (y_4 = y_4 ∧ y_3 = y_3 ∧ y_2 = y_2) ∧ y_11 = y_11 ∧ True) ∧
 Z y_10 ∧ μ y_10 < μ y_8) ∧
 smallW y_1 ∧
 smallW y_1 ∧
 y_12 ≤ (140737488355328 : Nat) ∧
 y_13 ≤ maxLen ∧
 ((y_9 = y_9 ∧ True ∧ True ∧ y = y ∧ y_5 = y_5) ∧
 (y_4 = y_4 ∧ y_3 = y_3 ∧ y_2 = y_2) ∧ y_11 = y_11 ∧ True) ∧
 Z y_10 ∧ μ y_10 < μ y_8) ∧
 (((smallW y_1 ∧
 smallW y_1 ∧
 y_12 ≤ (140737488355328 : Nat) ∧
 y_13 ≤ maxLen ∧
 ((y_9 = y_9 ∧ True ∧ True ∧ y = y ∧ y_5 = y_5) ∧
 (y_4 = y_4 ∧ y_3 = y_3 ∧ y_2 = y_2) ∧ y_11 = y_11 ∧ True) ∧
 Z y_10 ∧ μ y_10 < μ y_8) ∧
 smallW y_1 ∧
 smallW y_1 ∧
 y_12 ≤ (140737488355328 : Nat) ∧
 y_13 ≤ maxLen ∧
 ((y_9 = y_9 ∧ True ∧ True ∧ y = y ∧ y_5 = y_5) ∧
 (y_4 = y_4 ∧ y_3 = y_3 ∧ y_2 = y_2) ∧ y_11 = y_11 ∧ True) ∧
 Z y_10 ∧ μ y_10 < μ y_8) ∧
 smallW y_1 ∧
 smallW y_1 ∧
 y_12 ≤ (140737488355328 : Nat) ∧
 y_13 ≤ maxLen ∧
 ((y_9 = y_9 ∧ True ∧ True ∧ y = y ∧ y_5 = y_5) ∧
 (y_4 = y_4 ∧ y_3 = y_3 ∧ y_2 = y_2) ∧ y_11 = y_11 ∧ True) ∧
 Z y_10 ∧ μ y_10 < μ y_8) ∧
 (((smallW y_1 ∧
 smallW y_1 ∧
 y_12 ≤ (140737488355328 : Nat) ∧
 y_13 ≤ maxLen ∧
 ((y_9 = y_9 ∧ True ∧ True ∧ y = y ∧ y_5 = y_5) ∧
 (y_4 = y_4 ∧ y_3 = y_3 ∧ y_2 = y_2) ∧ y_11 = y_11 ∧ True) ∧
 Z y_10 ∧ μ y_10 < μ y_8) ∧
 smallW y_1 ∧
 smallW y_1 ∧
 y_12 ≤ (140737488355328 : Nat) ∧
 y_13 ≤ maxLen ∧
 ((y_9 = y_9 ∧ True ∧ True ∧ y = y ∧ y_5 = y_5) ∧
 (y_4 = y_4 ∧ y_3 = y_3 ∧ y_2 = y_2) ∧ y_11 = y_11 ∧ True) ∧
 Z y_10 ∧ μ y_10 < μ y_8) ∧
 smallW y_1 ∧
 smallW y_1 ∧
 y_12 ≤ (140737488355328 : Nat) ∧
 y_13 ≤ maxLen ∧
 ((y_9 = y_9 ∧ True ∧ True ∧ y = y ∧ y_5 = y_5) ∧
 (y_4 = y_4 ∧ y_3 = y_3 ∧ y_2 = y_2) ∧ y_11 = y_11 ∧ True) ∧
 Z y_10 ∧ μ y_10 < μ y_8) ∧
 (smallW y_1 ∧
 smallW y_1 ∧
 y_12 ≤ (140737488355328 : Nat) ∧
 y_13 ≤ maxLen ∧
 ((y_9 = y_9 ∧ True ∧ True ∧ y = y ∧ y_5 = y_5) ∧
 (y_4 = y_4 ∧ y_3 = y_3 ∧ y_2 = y_2) ∧ y_11 = y_11 ∧ True) ∧
 Z y_10 ∧ μ y_10 < μ y_8) ∧
 smallW y_1 ∧
 smallW y_1 ∧
 y_12 ≤ (140737488355328 : Nat) ∧
 y_13 ≤ maxLen ∧
 ((y_9 = y_9 ∧ True ∧ True ∧ y = y ∧ y_5 = y_5) ∧
 (y_4 = y_4 ∧ y_3 = y_3 ∧ y_2 = y_2) ∧ y_11 = y_11 ∧ True) ∧
 Z y_10 ∧ μ y_10 < μ y_8) ∧
 (decide (a_1 < y_5) = false → a = refPlaces y_1 y)
theorem vcEq41 : fnVC E41 Tryz.f41 (bodyOf Tryz.f41) cRefPlaces = vc41 := by kernel_rfl
def hs42 : List (Nat × Nat × Hint) := []
def nm42 : List Nat := [3000000062]
noncomputable def E42 : Env := env tab [] [] gl hs42 nm42
def vc42 : Prop :=
 ∀ (x : Option (Option (Nd × Unit) × Unit) × Unit),
 True →
 (Option.isNone x.fst = true → none = treeOf x.fst) ∧
 (Option.isNone x.fst = false →
 Option.isSome x.fst = true ∧ (List.getD (optL x.fst) (0 : Nat) (Ty.dflt t82)).fst = treeOf x.fst)
theorem vcEq42 : fnVC E42 Tryz.f42 (bodyOf Tryz.f42) cTreeC = vc42 := by kernel_rfl
def hs45 : List (Nat × Nat × Hint) := [(0, 2, ⟨[.slot 9 t3], [1, 7, 8], [], []⟩)]
def nm45 : List Nat := [3000000062]
noncomputable def E45 : Env := env tab [] [] gl hs45 nm45
def vc45 : Prop :=
 ∀ (x : List (Int × Int × Unit) × Int × Unit),
 List.length x.fst ≤ maxLen →
 ((0 : Int) = (0 : Int) ∧
 x.snd.fst = x.snd.fst ∧ x.fst = x.fst ∧ (↑(List.length x.fst) : Int) = (↑(List.length x.fst) : Int)) ∧
 ∃ (Z : Int × Unit → Prop),
 ∃ (μ : Int × Unit → Nat),
 Z ((0 : Int), ()) ∧
 ∀ (a : Int),
 Z (a, ()) →
 (decide (a < (↑(List.length x.fst) : Int)) = true →
 ((0 : Int) ≤ a ∧ a < (↑(List.length x.fst) : Int)) ∧
 (decide ((List.getD x.fst (Int.toNat a) (Ty.dflt t46)).fst ≤ x.snd.fst) = true →
 (decide (x.snd.fst < (List.getD x.fst (Int.toNat a) (Ty.dflt t46)).snd.fst) = true →
 a = hidesI x.fst x.snd.fst) ∧
 (decide (x.snd.fst < (List.getD x.fst (Int.toNat a) (Ty.dflt t46)).snd.fst) = false →
 (IntKind.wrap IntKind.i64 (a + (1 : Int)) = IntKind.wrap IntKind.i64 (a + (1 : Int)) ∧
 x.snd.fst = x.snd.fst ∧
 x.fst = x.fst ∧ (↑(List.length x.fst) : Int) = (↑(List.length x.fst) : Int)) ∧
 Z (IntKind.wrap IntKind.i64 (a + (1 : Int)), ()) ∧
 μ (IntKind.wrap IntKind.i64 (a + (1 : Int)), ()) < μ (a, ()))) ∧
 (decide ((List.getD x.fst (Int.toNat a) (Ty.dflt t46)).fst ≤ x.snd.fst) = false →
 (IntKind.wrap IntKind.i64 (a + (1 : Int)) = IntKind.wrap IntKind.i64 (a + (1 : Int)) ∧
 x.snd.fst = x.snd.fst ∧
 x.fst = x.fst ∧ (↑(List.length x.fst) : Int) = (↑(List.length x.fst) : Int)) ∧
 Z (IntKind.wrap IntKind.i64 (a + (1 : Int)), ()) ∧
 μ (IntKind.wrap IntKind.i64 (a + (1 : Int)), ()) < μ (a, ()))) ∧
 (decide (a < (↑(List.length x.fst) : Int)) = false → (-1 : Int) = hidesI x.fst x.snd.fst)
theorem vcEq45 : fnVC E45 Tryz.f45 (bodyOf Tryz.f45) cHides = vc45 := by kernel_rfl
def hs47 : List (Nat × Nat × Hint) := [(0, 3, ⟨[.rowS 3 900000003 t105 105, .slot 11 t3], [9, 10], [], []⟩)]
def nm47 : List Nat := [3000000062]
noncomputable def E47 : Env := env tab [(42, cTreeC), (81, cItems)] [] gl hs47 nm47
def vc47 : Prop :=
 ∀ (x : Option (Option (Nd × Unit) × Unit) × Unit),
 let y := items (topT (treeOf x.fst));
 let y_1 := (↑(List.length y) : Int);
 lowT (topT (treeOf x.fst)) →
 True ∧
 ((topT (treeOf x.fst) = (NT.nil : Nd) ∨ ∃ (h : Nat), h ≤ (4 : Nat) ∧ Wf h true (topT (treeOf x.fst))) ∧
 List.length y ≤ (100000 : Nat)) ∧
 (((0 : Int) = (0 : Int) ∧ True ∧ y = y ∧ y_1 = y_1) ∧ True ∧ True) ∧
 ∃ (Z : List (Int × Int × Unit) × Int × Unit → Prop),
 ∃ (μ : List (Int × Int × Unit) × Int × Unit → Nat),
 Z ([], (0 : Int), ()) ∧
 ∀ (a : List (Int × Int × Unit)) (a_1 : Int),
 let y_2 := ((List.getD y (Int.toNat a_1) (Ty.dflt t95)).snd.snd.fst.snd.fst, ());
 let y_3 := (a, a_1, ());
 let y_4 := IntKind.wrap IntKind.i64 (a_1 + (1 : Int));
 let y_5 := (List.getD y (Int.toNat a_1) (Ty.dflt t95)).fst == (1 : Int);
 let y_6 := [((List.getD y (Int.toNat a_1) (Ty.dflt t95)).snd.snd.fst.fst, y_2)];
 let y_7 := a ++ [((0 : Int), y_2)];
 let y_8 := List.length a + List.length [((0 : Int), y_2)];
 let y_9 := (y_7, y_4, ());
 let y_10 := (a ++ y_6, y_4, ());
 Z y_3 →
 (decide (a_1 < y_1) = true →
 ((0 : Int) ≤ a_1 ∧ a_1 < y_1) ∧
 ((0 : Int) ≤ (1 : Int) ∧ (1 : Int) < (↑(3 : Nat) : Int)) ∧
 (y_5 = true →
 ((0 : Int) ≤ (0 : Int) ∧ (0 : Int) < (↑(3 : Nat) : Int)) ∧
 (List.length a + List.length y_6) * (16 : Nat) ≤ (140737488355328 : Nat) ∧
 List.length a + List.length y_6 ≤ maxLen ∧
 ((y_4 = y_4 ∧ True ∧ y = y ∧ y_1 = y_1) ∧ a ++ y_6 = a ++ y_6 ∧ True) ∧
 Z y_10 ∧ μ y_10 < μ y_3) ∧
 (y_5 = false →
 y_8 * (16 : Nat) ≤ (140737488355328 : Nat) ∧
 y_8 ≤ maxLen ∧
 ((y_4 = y_4 ∧ True ∧ y = y ∧ y_1 = y_1) ∧ y_7 = y_7 ∧ True) ∧
 Z y_9 ∧ μ y_9 < μ y_3)) ∧
 (decide (a_1 < y_1) = false → a = piecesC (treeOf x.fst))
theorem vcEq47 : fnVC E47 Tryz.f47 (bodyOf Tryz.f47) cPiecesC = vc47 := by kernel_rfl
def hs48 : List (Nat × Nat × Hint) := [(0, 3, ⟨[.rowS 5 900000005 t106 106, .slot 14 t3], [1, 12, 13], [], []⟩)]
def nm48 : List Nat := [3000000062, 4000000008]
noncomputable def E48 : Env := env tab [(18, cStarts), (45, cHides)] [] gl hs48 nm48
def vc48 : Prop :=
 ∀ (x : Int × List (Int × Int × Unit) × Unit),
 let y := x.snd.fst;
 let y_1 := x.fst;
 let y_2 := starts y_1 y;
 let y_3 := (↑(List.length y) : Int);
 let y_4 := (↑(List.length y_2) : Int);
 y_1 ≤ (1000000000 : Int) ∧ List.length y ≤ maxLen →
 (y_1 ≤ (1000000000 : Int) ∧ List.length y ≤ maxLen) ∧
 (((0 : Int) = (0 : Int) ∧ True ∧ y = y ∧ y_2 = y_2 ∧ y_4 = y_4) ∧ True ∧ True) ∧
 ∃ (Z : List (Int × Int × Unit) × Int × Unit → Prop),
 ∃ (μ : List (Int × Int × Unit) × Int × Unit → Nat),
 Z ([], (0 : Int), ()) ∧
 ∀ (a : List (Int × Int × Unit)),
 let y_5 := IntKind.wrap IntKind.i64 ((↑(List.length a) : Int) - (1 : Int));
 let y_6 := a ++ [((0 : Int), (1 : Int), ())];
 let y_7 := List.length a + List.length [((0 : Int), (1 : Int), ())];
 let y_8 := List.length a;
 let y_9 :=  List.set a (Int.toNat y_5)  ((List.getD a (Int.toNat y_5) (Ty.dflt t106)).fst,  IntKind.wrap IntKind.i64 ((List.getD a (Int.toNat y_5) (Ty.dflt t106)).snd.fst + (1 : Int)), ());
 let y_10 := (List.getD a (Int.toNat y_5) (Ty.dflt t106)).fst == (0 : Int);
 ∀ (a_1 : Int),
 let y_11 :=  [(IntKind.wrap IntKind.i64  ((List.getD y (Int.toNat (hidesI y (List.getD y_2 (Int.toNat a_1) (Ty.dflt t3))))  (Ty.dflt t46)).snd.fst -  (List.getD y (Int.toNat (hidesI y (List.getD y_2 (Int.toNat a_1) (Ty.dflt t3))))  (Ty.dflt t46)).fst),  (1 : Int), ())];
 let y_12 := (a, a_1, ());
 let y_13 := IntKind.wrap IntKind.i64 (a_1 + (1 : Int));
 let y_14 := hidesI y (List.getD y_2 (Int.toNat a_1) (Ty.dflt t3));
 let y_15 := (y_6, y_13, ());
 let y_16 := (y_9, y_13, ());
 let y_17 := (a ++ y_11, y_13, ());
 let y_18 := a ++ y_11;
 let y_19 := y_8 + List.length y_11;
 let y_20 := y_19 * (16 : Nat);
 Z y_12 →
 (decide (a_1 < y_4) = true →
 ((0 : Int) ≤ a_1 ∧ a_1 < y_4) ∧
 List.length y ≤ maxLen ∧
 (decide (y_14 ≥ (0 : Int)) = true →
 (((0 : Int) ≤ y_14 ∧ y_14 < y_3) ∧
 (((0 : Int) ≤ y_14 ∧ y_14 < y_3) ∧
 y_20 ≤ (140737488355328 : Nat) ∧
 y_19 ≤ maxLen ∧
 ((y_13 = y_13 ∧ True ∧ y = y ∧ y_2 = y_2 ∧ y_4 = y_4) ∧
 y_18 = y_18 ∧ True) ∧
 Z y_17 ∧ μ y_17 < μ y_12) ∧
 ((0 : Int) ≤ y_14 ∧ y_14 < y_3) ∧
 (y_20 ≤ (140737488355328 : Nat) ∧
 y_19 ≤ maxLen ∧
 ((y_13 = y_13 ∧ True ∧ y = y ∧ y_2 = y_2 ∧ y_4 = y_4) ∧
 y_18 = y_18 ∧ True) ∧
 Z y_17 ∧ μ y_17 < μ y_12) ∧
 y_20 ≤ (140737488355328 : Nat) ∧
 y_19 ≤ maxLen ∧
 ((y_13 = y_13 ∧ True ∧ y = y ∧ y_2 = y_2 ∧ y_4 = y_4) ∧
 y_18 = y_18 ∧ True) ∧
 Z y_17 ∧ μ y_17 < μ y_12) ∧
 ((0 : Int) ≤ y_14 ∧ y_14 < y_3) ∧
 (((0 : Int) ≤ y_14 ∧ y_14 < y_3) ∧
 (y_20 ≤ (140737488355328 : Nat) ∧
 y_19 ≤ maxLen ∧
 ((y_13 = y_13 ∧ True ∧ y = y ∧ y_2 = y_2 ∧ y_4 = y_4) ∧
 y_18 = y_18 ∧ True) ∧
 Z y_17 ∧ μ y_17 < μ y_12) ∧
 y_20 ≤ (140737488355328 : Nat) ∧
 y_19 ≤ maxLen ∧
 ((y_13 = y_13 ∧ True ∧ y = y ∧ y_2 = y_2 ∧ y_4 = y_4) ∧
 y_18 = y_18 ∧ True) ∧
 Z y_17 ∧ μ y_17 < μ y_12) ∧
 ((0 : Int) ≤ y_14 ∧ y_14 < y_3) ∧
 y_20 ≤ (140737488355328 : Nat) ∧
 y_19 ≤ maxLen ∧
 ((y_13 = y_13 ∧ True ∧ y = y ∧ y_2 = y_2 ∧ y_4 = y_4) ∧
 y_18 = y_18 ∧ True) ∧
 Z y_17 ∧ μ y_17 < μ y_12) ∧
 (decide (y_14 ≥ (0 : Int)) = false →
 (decide (y_5 ≥ (0 : Int)) = true →
 ((0 : Int) ≤ y_5 ∧ y_5 < (↑y_8 : Int)) ∧
 (y_10 = true →
 ((0 : Int) ≤ y_5 ∧ y_5 < (↑y_8 : Int)) ∧
 ((0 : Int) ≤ y_5 ∧ y_5 < (↑y_8 : Int)) ∧
 ((y_13 = y_13 ∧ True ∧ y = y ∧ y_2 = y_2 ∧ y_4 = y_4) ∧
 y_9 = y_9 ∧ True) ∧
 Z y_16 ∧ μ y_16 < μ y_12) ∧
 (y_10 = false →
 y_7 * (16 : Nat) ≤ (140737488355328 : Nat) ∧
 y_7 ≤ maxLen ∧
 ((y_13 = y_13 ∧ True ∧ y = y ∧ y_2 = y_2 ∧ y_4 = y_4) ∧
 y_6 = y_6 ∧ True) ∧
 Z y_15 ∧ μ y_15 < μ y_12)) ∧
 (decide (y_5 ≥ (0 : Int)) = false →
 y_7 * (16 : Nat) ≤ (140737488355328 : Nat) ∧
 y_7 ≤ maxLen ∧
 ((y_13 = y_13 ∧ True ∧ y = y ∧ y_2 = y_2 ∧ y_4 = y_4) ∧ y_6 = y_6 ∧ True) ∧
 Z y_15 ∧ μ y_15 < μ y_12))) ∧
 (decide (a_1 < y_4) = false → a = refPiecesC y_1 y)
theorem vcEq48 : fnVC E48 Tryz.f48 (bodyOf Tryz.f48) cRefPiecesC = vc48 := by kernel_rfl
def hs57 : List (Nat × Nat × Hint) := [(0, 3, ⟨[.rowS 6 900000006 t46 46, .slot 11 t3], [3, 9, 10], [3], []⟩)]
def nm57 : List Nat := [3000000062]
noncomputable def E57 : Env := env tab [(85, cAcross)] [] gl hs57 nm57
def vc57 : Prop :=
 ∀ (x : List (Int × Int × Unit) × (Int × Int × Unit) × Unit),
 let y := x.snd.fst;
 let y_1 := x.fst;
 let y_2 := (↑(List.length y_1) : Int);
 let y_3 := y.snd.fst;
 let y_4 := y.fst;
 List.length y_1 ≤ (100000 : Nat) →
 (((0 : Int) = (0 : Int) ∧ True ∧ True ∧ y_1 = y_1 ∧ y_2 = y_2) ∧ (y_4 = y_4 ∧ y_3 = y_3) ∧ True ∧ True) ∧
 ∃ (Z : List (Int × Int × Unit) × Int × Unit → Prop),
 ∃ (μ : List (Int × Int × Unit) × Int × Unit → Nat),
 Z ([], (0 : Int), ()) ∧
 ∀ (a : List (Int × Int × Unit)) (a_1 : Int),
 let y_5 := (a, IntKind.wrap IntKind.i64 (a_1 + (1 : Int)), ());
 let y_6 := (a, a_1, ());
 let y_7 := List.getD y_1 (Int.toNat a_1) (Ty.dflt t46);
 let y_8 := IntKind.wrap IntKind.i64 (a_1 + (1 : Int));
 let y_9 := (a ++ [y_7], y_8, ());
 let y_10 := y_7.snd.fst;
 let y_11 := a ++ [y_7];
 let y_12 := y_7.fst;
 Z y_6 →
 (decide (a_1 < y_2) = true →
 ((0 : Int) ≤ a_1 ∧ a_1 < y_2) ∧
 True ∧
 (acrossS y_7 y_4 = true → ([], false, ()) = withinC y_1 y) ∧
 (acrossS y_7 y_4 = false →
 True ∧
 (acrossS y_7 y_3 = true → ([], false, ()) = withinC y_1 y) ∧
 (acrossS y_7 y_3 = false →
 (decide (y_12 ≥ y_4) = true →
 (decide (y_10 ≤ y_3) = true →
 (List.length a + List.length [y_7]) * (16 : Nat) ≤ (140737488355328 : Nat) ∧
 List.length a + List.length [y_7] ≤ maxLen ∧
 ((y_8 = y_8 ∧ True ∧ True ∧ y_1 = y_1 ∧ y_2 = y_2) ∧
 (y_4 = y_4 ∧ y_3 = y_3) ∧ y_11 = y_11 ∧ True) ∧
 Z y_9 ∧ μ y_9 < μ y_6) ∧
 (decide (y_10 ≤ y_3) = false →
 ((y_8 = y_8 ∧ True ∧ True ∧ y_1 = y_1 ∧ y_2 = y_2) ∧
 (y_4 = y_4 ∧ y_3 = y_3) ∧ a = a ∧ True) ∧
 Z y_5 ∧ μ y_5 < μ y_6)) ∧
 (decide (y_12 ≥ y_4) = false →
 ((y_8 = y_8 ∧ True ∧ True ∧ y_1 = y_1 ∧ y_2 = y_2) ∧
 (y_4 = y_4 ∧ y_3 = y_3) ∧ a = a ∧ True) ∧
 Z y_5 ∧ μ y_5 < μ y_6)))) ∧
 (decide (a_1 < y_2) = false → (a, true, ()) = withinC y_1 y)
theorem vcEq57 : fnVC E57 Tryz.f57 (bodyOf Tryz.f57) cWithinC = vc57 := by kernel_rfl
def hs58 : List (Nat × Nat × Hint) := []
def nm58 : List Nat := [3000000062]
noncomputable def E58 : Env := env tab [(42, cTreeC), (43, cFind), (44, cAt), (85, cAcross)] [] gl hs58 nm58
def vc58 : Prop :=
 ∀
 (x :
 Option (Option (Nd × Unit) × Unit) ×
 (Int × Int × Unit) × (Int × Int × Unit) × Unit),
 let y := (findT (treeOf x.fst) (0 : Int) x.snd.fst.snd.fst (1 : Int)).fst;
 let y_1 := (findT (treeOf x.fst) (0 : Int) x.snd.fst.fst (0 : Int)).fst;
 let y_2 := edgesC x.fst x.snd.fst x.snd.snd.fst;
 let y_3 := ((0 : Int), (0 : Int), x.snd.snd.fst, false, ());
 let y_4 := treeOf x.fst;
 let y_5 := x.snd.snd.fst;
 let y_6 := x.snd.fst;
 let y_7 := IntKind.wrap IntKind.i64 (y.snd.fst.snd.fst.fst + (atT y_4 y.fst).fst.snd.snd.fst.fst);
 let y_8 := IntKind.wrap IntKind.i64 (y_1.snd.fst.snd.fst.fst + (atT y_4 y_1.fst).fst.snd.snd.fst.fst);
 let y_9 := y_1.fst;
 let y_10 := y_1.snd.fst.snd.fst.fst;
 let y_11 := (y_10, y_5.snd);
 let y_12 := IntKind.wrap IntKind.i64 (y_9 + (1 : Int));
 let y_13 := (atT y_4 y_9).fst.fst == (0 : Int);
 let y_14 := (atT y_4 y_9).snd.fst == (0 : Int);
 let y_15 := acrossS (y_10, y_8, ()) y_6.fst;
 let y_16 := y_8 == y_6.fst;
 let y_17 := acrossS (y.snd.fst.snd.fst.fst, y_7, ()) y_6.snd.fst;
 let y_18 := if y_9 < y.fst then y.fst else y_9;
 let y_19 := (IntKind.wrap IntKind.i64 (y_5.snd.fst + IntKind.wrap IntKind.i64 (y_7 - y_6.snd.fst)), ());
 let y_20 := (y_12, if y_12 < y.fst then y.fst else y_12, y_5, true, ());
 let y_21 := (atT y_4 y.fst).fst.fst == (0 : Int);
 let y_22 := (atT y_4 y.fst).snd.fst == (0 : Int);
 let y_23 :=  if y_9 < IntKind.wrap IntKind.i64 (y.fst + (1 : Int)) then IntKind.wrap IntKind.i64 (y.fst + (1 : Int)) else y_9;
 let y := IntKind.wrap IntKind.i64 (y.fst + (1 : Int));
 let y_24 := (y_9, y_23, (y_5.fst, y_19), true, ());
 let y_25 := (y_9, y_18, y_5, true, ());
 let y_26 := (y_9, y_18, y_11, true, ());
 okTre y_4 →
 True ∧
 WfN (topT y_4) ∧
 True ∧
 okTre y_4 ∧
 (y_14 = true →
 ((0 : Int) ≤ (0 : Int) ∧ (0 : Int) < (↑(3 : Nat) : Int)) ∧
 ((0 : Int) ≤ (0 : Int) ∧ (0 : Int) < (↑(3 : Nat) : Int)) ∧
 ((0 : Int) ≤ (0 : Int) ∧ (0 : Int) < (↑(3 : Nat) : Int)) ∧
 (y_13 = true →
 True ∧
 WfN (topT y_4) ∧
 True ∧
 okTre y_4 ∧
 (y_22 = true →
 ((0 : Int) ≤ (0 : Int) ∧ (0 : Int) < (↑(3 : Nat) : Int)) ∧
 ((0 : Int) ≤ (0 : Int) ∧ (0 : Int) < (↑(3 : Nat) : Int)) ∧
 ((0 : Int) ≤ (0 : Int) ∧ (0 : Int) < (↑(3 : Nat) : Int)) ∧
 (y_21 = true → (y_9, y_23, (y_10, y_19), true, ()) = y_2) ∧
 (y_21 = false →
 True ∧
 (y_17 = true → ((0 : Int), (0 : Int), y_11, false, ()) = y_2) ∧
 (y_17 = false → y_26 = y_2))) ∧
 (y_22 = false → y_26 = y_2)) ∧
 (y_13 = false →
 True ∧
 (y_15 = true → y_3 = y_2) ∧
 (y_15 = false →
 (y_16 = true →
 True ∧
 WfN (topT y_4) ∧
 True ∧
 okTre y_4 ∧
 (y_22 = true →
 ((0 : Int) ≤ (0 : Int) ∧ (0 : Int) < (↑(3 : Nat) : Int)) ∧
 ((0 : Int) ≤ (0 : Int) ∧ (0 : Int) < (↑(3 : Nat) : Int)) ∧
 ((0 : Int) ≤ (0 : Int) ∧ (0 : Int) < (↑(3 : Nat) : Int)) ∧
 (y_21 = true →
 (y_12, if y_12 < y then y else y_12, (y_5.fst, y_19), true,
 ()) =
 y_2) ∧
 (y_21 = false →
 True ∧
 (y_17 = true → y_3 = y_2) ∧ (y_17 = false → y_20 = y_2))) ∧
 (y_22 = false → y_20 = y_2)) ∧
 (y_16 = false →
 True ∧
 WfN (topT y_4) ∧
 True ∧
 okTre y_4 ∧
 (y_22 = true →
 ((0 : Int) ≤ (0 : Int) ∧ (0 : Int) < (↑(3 : Nat) : Int)) ∧
 ((0 : Int) ≤ (0 : Int) ∧ (0 : Int) < (↑(3 : Nat) : Int)) ∧
 ((0 : Int) ≤ (0 : Int) ∧ (0 : Int) < (↑(3 : Nat) : Int)) ∧
 (y_21 = true → y_24 = y_2) ∧
 (y_21 = false →
 True ∧
 (y_17 = true → y_3 = y_2) ∧ (y_17 = false → y_25 = y_2))) ∧
 (y_22 = false → y_25 = y_2))))) ∧
 (y_14 = false →
 True ∧
 WfN (topT y_4) ∧
 True ∧
 okTre y_4 ∧
 (y_22 = true →
 ((0 : Int) ≤ (0 : Int) ∧ (0 : Int) < (↑(3 : Nat) : Int)) ∧
 ((0 : Int) ≤ (0 : Int) ∧ (0 : Int) < (↑(3 : Nat) : Int)) ∧
 ((0 : Int) ≤ (0 : Int) ∧ (0 : Int) < (↑(3 : Nat) : Int)) ∧
 (y_21 = true → y_24 = y_2) ∧
 (y_21 = false → True ∧ (y_17 = true → y_3 = y_2) ∧ (y_17 = false → y_25 = y_2))) ∧
 (y_22 = false → y_25 = y_2))
theorem vcEq58 : fnVC E58 Tryz.f58 (bodyOf Tryz.f58) cEdges = vc58 := by kernel_rfl
def hs72 : List (Nat × Nat × Hint) := []
def nm72 : List Nat := [3000000062]
noncomputable def E72 : Env := env tab [] [] gl hs72 nm72
def vc72 : Prop :=
 ∀ (x : Int × Unit),
 True → ((0 : Int), (0 : Int), (x.fst, x.fst, (0 : Int), ()), (0 : Int), ByteArray.empty, ()) = plainC x.fst
theorem vcEq72 : fnVC E72 Tryz.f72 (bodyOf Tryz.f72) cPlainC = vc72 := by kernel_rfl
def hs73 : List (Nat × Nat × Hint) := []
def nm73 : List Nat := [3000000062]
noncomputable def E73 : Env := env tab [] [] gl hs73 nm73
def vc73 : Prop :=
 ∀ (x : Int × Unit),
 True → ((1 : Int), (0 : Int), (x.fst, (1 : Int), (0 : Int), ()), (0 : Int), ByteArray.empty, ()) = foldC x.fst
theorem vcEq73 : fnVC E73 Tryz.f73 (bodyOf Tryz.f73) cFoldC = vc73 := by kernel_rfl
def hs85 : List (Nat × Nat × Hint) := []
def nm85 : List Nat := [3000000062]
noncomputable def E85 : Env := env tab [] [] gl hs85 nm85
def vc85 : Prop :=
 ∀ (x : (Int × Int × Unit) × Int × Unit),
 True →
 (decide (x.fst.fst < x.snd.fst) = true → decide (x.snd.fst < x.fst.snd.fst) = acrossS x.fst x.snd.fst) ∧
 (decide (x.fst.fst < x.snd.fst) = false → false = acrossS x.fst x.snd.fst)
theorem vcEq85 : fnVC E85 Tryz.f85 (bodyOf Tryz.f85) cAcross = vc85 := by kernel_rfl
end Go.Fr.Z16
namespace Go.Fr.Z16
open Go Go.Fr Go.Proofs
theorem d46 : Ty.dflt t46 = zSp := rfl
theorem p72 : vc72 := by
  unfold vc72
  intro x _
  rfl
theorem p73 : vc73 := by
  unfold vc73
  intro x _
  rfl
theorem p34 : vc34 := by
  unfold vc34
  intro x _
  exact ⟨trivial, trivial, rfl⟩
theorem p42 : vc42 := by
  unfold vc42
  rintro ⟨s, ⟨⟩⟩ -
  cases s with
  | none => exact ⟨fun _ => rfl, fun h => by cases h⟩
  | some s => exact ⟨fun h => (by cases h), fun _ => ⟨rfl, rfl⟩⟩
theorem p20 : vc20 := by
  unfold vc20
  intro x
  (repeat' (first | apply And.intro | intro _))
  all_goals first
    | decide
    | rfl
    | trivial
theorem p85 : vc85 := by
  unfold vc85
  rintro ⟨x, a, ⟨⟩⟩ -
  refine ⟨fun h => ?_, fun h => ?_⟩
  · have h : decide (x.1 < a) = true := h
    show decide (a < x.2.1) = (decide (x.1 < a) && decide (a < x.2.1))
    rw [h]; rfl
  · have h : decide (x.1 < a) = false := h
    show false = (decide (x.1 < a) && decide (a < x.2.1))
    rw [h]; rfl
theorem p12 : vc12 := by
  unfold vc12
  rintro ⟨⟨n, l, hid, ⟨⟩⟩, ⟨⟩⟩
  simp only [bne_iff_ne, bne_eq_false_iff_eq, ne_eq]
  intro h
  have y : ¬ (newI n l).2.1 = 0 → none = wovenT (n, l, hid, ()) := fun h => by
    unfold wovenT
    rw [if_pos (.inl h)]
  have y2 : (newI n l).1.isNone = true → none = wovenT (n, l, hid, ()) := fun h => by
    unfold wovenT
    rw [if_pos (.inr h)]
  refine ⟨h, y, fun h1 => ⟨y2, fun h2 => ⟨?_, ?_⟩⟩⟩
  · have hw : wrongN n l = 0 := by rw [← (code_ok n l).2.1]; exact h1
    obtain ⟨n', L, e1, e2, _, _, _, _, _, e3, _⟩ := made_all (made_new hw)
    show ((allI (newI n l).1).length ≤ 10000 ∧ shortL (allI (newI n l).1))
    rw [e1]
    exact e3
  · unfold wovenT
    rw [if_neg]
    rintro (h | h)
    · exact h h1
    · have h2 : (newI n l).1.isNone = false := h2
      rw [h2] at h; cases h
theorem p13 : vc13 := by
  unfold vc13
  rintro ⟨⟨n, l, hid, ⟨⟩⟩, ⟨⟩⟩ ⟨h1, h2⟩
  obtain ⟨a1, a2, a3, a4, a5⟩ := h1
  simp only at a1 a2 a3 a4 a5
  have b2 : l.length ≤ maxLen := by rw [maxLen_eq]; omega
  exact ⟨⟨b2, a4⟩, h2, rfl⟩
theorem p14 : vc14 := by
  unfold vc14
  rintro ⟨⟨n, l, hid, ⟨⟩⟩, ⟨⟩⟩ ⟨h1, h2⟩
  obtain ⟨a1, a2, a3, a4, a5⟩ := h1
  simp only at a1 a2 a3 a4 a5
  have b2 : l.length ≤ maxLen := by rw [maxLen_eq]; omega
  have b5 : hid.length ≤ 100000 := by omega
  exact ⟨⟨b2, a4⟩, ⟨h2, b5⟩, rfl⟩
theorem p19 : vc19 := by
  unfold vc19
  rintro ⟨n, l, a, ⟨⟩⟩
  simp only [beq_iff_eq, beq_eq_false_iff_ne]
  rintro ⟨h1, h2, h3, h4⟩
  refine ⟨⟨h1, h2⟩, fun h => ?_, fun h => ⟨⟨h3, by omega⟩, ?_⟩⟩
  · unfold refInC
    rw [if_pos h]
  · unfold refInC
    rw [if_neg h]
    rfl
theorem rightL_at {n f : Int} {l : List Span} {k : Nat} (h : k < l.length) : rightL n f (l.drop k) = if (l.getD k zSp).1 < f ∨ (l.getD k zSp).2.1 ≤ (l.getD k zSp).1 ∨ (l.getD k zSp).2.1 > n then false else rightL n (l.getD k zSp).2.1 (l.drop (k + 1)) := by
  rw [drop_cons zSp h]
  rfl
def RightAt (n : Int) (l : List Span) (z : Int × Int × Unit) : Prop := ∃ k : Nat, k ≤ l.length ∧ z.2.1 = (k : Int) ∧ rightL n 0 l = rightL n z.1 (l.drop k)
theorem right_loop {n : Int} {l : List Span} (hl : l.length ≤ 9223372036854775807) {f : Int} {k : Nat} (hk : k ≤ l.length) (hr : rightL n 0 l = rightL n f (l.drop k)) :
    ((k : Int) < (l.length : Int) → ((l.getD k zSp).1 < f → false = rightL n 0 l) ∧ (¬ (l.getD k zSp).1 < f → ((l.getD k zSp).2.1 ≤ (l.getD k zSp).1 → false = rightL n 0 l) ∧ (¬ (l.getD k zSp).2.1 ≤ (l.getD k zSp).1 →
      ((l.getD k zSp).2.1 > n → false = rightL n 0 l) ∧ (¬ (l.getD k zSp).2.1 > n → RightAt n l ((l.getD k zSp).2.1, ((k + 1 : Nat) : Int), ()))))) ∧ (¬ (k : Int) < (l.length : Int) → true = rightL n 0 l) := by
  refine ⟨fun h => ?_, fun h => ?_⟩
  · have hlt : k < l.length := by omega
    rw [rightL_at hlt] at hr
    refine ⟨fun g => ?_, fun g => ⟨fun g2 => ?_, fun g2 => ⟨fun g3 => ?_, fun g3 => ⟨k + 1, hlt, rfl, ?_⟩⟩⟩⟩
    · rw [hr, if_pos (.inl g)]
    · rw [hr, if_pos (.inr (.inl g2))]
    · rw [hr, if_pos (.inr (.inr g3))]
    · rw [hr, if_neg (by omega)]
  · rw [hr, show k = l.length by omega, List.drop_length]
    rfl
theorem p9 : vc9 := by
  unfold vc9
  simp only [eq_self, true_and, and_true, decide_eq_true_eq, decide_eq_false_iff_not]
  rintro ⟨n, l, ⟨⟩⟩
  simp only [maxLen_eq, d46]
  intro hl
  refine ⟨RightAt n l, fun z => l.length - z.2.1.toNat, ⟨0, Nat.zero_le _, rfl, rfl⟩, ?_⟩
  rintro f i ⟨k, hk, hi, hr⟩
  simp only at hi hr
  subst hi
  obtain ⟨st, en⟩ := right_loop hl hk hr
  refine ⟨fun h => ?_, en⟩
  have hlt : k < l.length := by omega
  have hw : IntKind.i64.wrap ((k : Int) + 1) = ((k + 1 : Nat) : Int) := wrap_succ (by omega)
  rw [toNat_cast, hw]
  simp only [toNat_cast]
  obtain ⟨s1, s2⟩ := st h
  have dec : l.length - (k + 1) < l.length - k := by omega
  refine ⟨by omega, s1, fun g => ⟨fun g2 => (s2 g).1 (by omega), fun g2 => ⟨((s2 g).2 (by omega)).1, fun g3 => ⟨((s2 g).2 (by omega)).2 g3, dec⟩⟩⟩⟩
theorem p35 : vc35 := by
  unfold vc35
  simp only [eq_self, true_and, and_true, decide_eq_true_eq, decide_eq_false_iff_not]
  rintro ⟨w, l, ⟨⟩⟩
  simp only [maxLen_eq, d46]
  intro hl
  refine ⟨RightAt (nW w) l, fun z => l.length - z.2.1.toNat, ⟨0, Nat.zero_le _, rfl, rfl⟩, ?_⟩
  rintro f i ⟨k, hk, hi, hr⟩
  simp only at hi hr
  subst hi
  obtain ⟨st, en⟩ := right_loop hl hk hr
  refine ⟨fun h => ?_, en⟩
  have hlt : k < l.length := by omega
  have hw : IntKind.i64.wrap ((k : Int) + 1) = ((k + 1 : Nat) : Int) := wrap_succ (by omega)
  rw [toNat_cast, hw]
  simp only [toNat_cast]
  obtain ⟨s1, s2⟩ := st h
  have dec : l.length - (k + 1) < l.length - k := by omega
  refine ⟨by omega, s1, fun g => ⟨fun g2 => (s2 g).1 (by omega), fun g2 => ⟨((s2 g).2 (by omega)).1, fun g3 => ⟨((s2 g).2 (by omega)).2 g3, dec⟩⟩⟩⟩
theorem rowC_len (t : Int) : (f : Int) → (l : List Span) → (rowC t f l).length ≤ 2 * l.length + 1
  | f, [] => by
    unfold rowC
    split <;> simp
  | f, x :: r => by
    have := rowC_len t x.2.1 r
    unfold rowC
    split
    · simp; omega
    · simp; omega
theorem p11 : vc11 := by
  unfold vc11
  simp only [true_and, bne_iff_ne, bne_eq_false_iff_eq, ne_eq, Bool.not_eq_true', Bool.not_eq_false']
  rintro ⟨w, l, ⟨⟩⟩ ⟨h1, h2⟩
  simp only at h1 h2
  have pl : (placesC w l).length = l.length := List.length_map _
  have rl := rowC_len (mW w) 0 (placesC w l)
  have b1 : l.length ≤ maxLen := by rw [maxLen_eq]; omega
  have b2 : l.length ≤ 100000 := by omega
  have b3 : (placesC w l).length ≤ 10000 := by omega
  refine ⟨b1, fun h => ?_, fun h => ⟨⟨h1, b2⟩, b3, ?_, fun g => ?_, fun g => ?_⟩⟩
  · unfold newC
    rw [if_pos h]
  · show (rowC (mW w) 0 (placesC w l)).length ≤ 100000
    omega
  · unfold newC
    rw [if_neg (by simp only at h; rw [h]; decide), if_pos g]
  · unfold newC
    rw [if_neg (by simp only at h; rw [h]; decide), if_neg (by simpa using g)]
theorem p15 : vc15 := by
  unfold vc15
  simp only [true_and, bne_iff_ne, bne_eq_false_iff_eq, ne_eq, beq_iff_eq, beq_eq_false_iff_ne]
  rintro ⟨c, a, ⟨⟩⟩ hw
  have y : ¬ (findT (treeOf c) 0 a 1).2.1 = 0 → (0, (findT (treeOf c) 0 a 1).2) = outCr c a := fun h => by
    unfold outCr
    rw [if_pos h]
  have n : (findT (treeOf c) 0 a 1).2.1 = 0 → (atT (treeOf c) (findT (treeOf c) 0 a 1).1.1).1.1 = 1 → ((findT (treeOf c) 0 a 1).1.2.1.2.1.2.1, 0, ()) = outCr c a := fun h h2 => by
    unfold outCr
    rw [if_neg (fun hh => hh h), if_pos h2]
  have n2 : (findT (treeOf c) 0 a 1).2.1 = 0 → ¬ (atT (treeOf c) (findT (treeOf c) 0 a 1).1.1).1.1 = 1 → (w64 (w64 ((findT (treeOf c) 0 a 1).1.2.1.2.1.2.1 + a) - (findT (treeOf c) 0 a 1).1.2.1.2.1.1), 0, ()) = outCr c a := fun h h2 => by
    unfold outCr
    rw [if_neg (fun hh => hh h), if_neg h2]
  (repeat' (first | apply And.intro | intro _))
  all_goals first
    | exact hw.1
    | exact hw
    | exact hw.2.1
    | exact hw.2.2 _ (by assumption)
    | exact y (by assumption)
    | exact n (by assumption) (by assumption)
    | exact n2 (by assumption) (by assumption)
    | decide
    | omega
theorem p17 : vc17 := by
  unfold vc17
  simp only [true_and, bne_iff_ne, bne_eq_false_iff_eq, ne_eq]
  rintro ⟨c, a, ⟨⟩⟩ hw
  have y : ¬ (findT (treeOf c) 1 a 1).2.1 = 0 → (0, (findT (treeOf c) 1 a 1).2) = inCr c a := fun h => by
    unfold inCr
    rw [if_pos h]
  have n : (findT (treeOf c) 1 a 1).2.1 = 0 → (w64 (w64 ((findT (treeOf c) 1 a 1).1.2.1.2.1.1 + a) - (findT (treeOf c) 1 a 1).1.2.1.2.1.2.1), 0, ()) = inCr c a := fun h => by
    unfold inCr
    rw [if_neg (fun hh => hh h)]
  (repeat' (first | apply And.intro | intro _))
  all_goals first
    | exact hw
    | exact y (by assumption)
    | exact n (by assumption)
    | decide
    | omega
end Go.Fr.Z16
namespace Go.Fr.Z16
open Go Go.Fr Go.Proofs
def Spans (f t : Int) : List Span → Prop
  | [] => f ≤ t
  | x :: r => f ≤ x.1 ∧ x.1 < x.2.1 ∧ Spans x.2.1 t r
theorem spans_le : {f t : Int} → {l : List Span} → Spans f t l → f ≤ t
  | _, _, [], h => h
  | _, _, x :: r, h => by have := spans_le h.2.2; have := h.1; have := h.2.1; omega
theorem spans_all : {f t : Int} → {l : List Span} → Spans f t l → ∀ x ∈ l, f ≤ x.1 ∧ x.1 < x.2.1 ∧ x.2.1 ≤ t
  | _, _, [], _ => fun x hx => by cases hx
  | f, t, x :: r, h => by
    intro y hy
    rcases List.mem_cons.1 hy with e | hy
    · subst e
      exact ⟨h.1, h.2.1, spans_le h.2.2⟩
    · have := spans_all h.2.2 y hy
      have := h.1
      have := h.2.1
      omega
def rowK (t : Int) : Int → List Span → List Itm
  | f, [] => if t > f then [plainC (t - f)] else []
  | f, x :: r => if x.1 > f then plainC (x.1 - f) :: foldC (x.2.1 - x.1) :: rowK t x.2.1 r else foldC (x.2.1 - x.1) :: rowK t x.2.1 r
theorem rowC_eq {t : Int} (ht : t ≤ 1099511627776) : (f : Int) → (l : List Span) → 0 ≤ f → Spans f t l → rowC t f l = rowK t f l
  | f, [], h0, h => by
    have h : f ≤ t := h
    unfold rowC rowK
    rw [w64_id (by omega) (by omega)]
  | f, x :: r, h0, h => by
    obtain ⟨h1, h2, h3⟩ := h
    have h4 := spans_le h3
    unfold rowC rowK
    rw [w64_id (n := x.1 - f) (by omega) (by omega), w64_id (n := x.2.1 - x.1) (by omega) (by omega), rowC_eq ht x.2.1 r (by omega) h3]
theorem rowK_len {t : Int} : (f : Int) → (l : List Span) → (rowK t f l).length ≤ 2 * l.length + 1
  | f, [] => by
    unfold rowK
    split <;> simp
  | f, x :: r => by
    have := rowK_len (t := t) x.2.1 r
    unfold rowK
    split
    · simp; omega
    · simp; omega
def okC (i : Itm) : Prop := (i.1 = 0 ∧ d0 i = d1 i ∧ 1 ≤ d0 i ∧ d0 i ≤ 1099511627776) ∨ (i.1 = 1 ∧ d1 i = 1 ∧ 1 ≤ d0 i ∧ d0 i ≤ 1099511627776)
def CRow (l : List Itm) : Prop := ∀ i ∈ l, okC i
theorem crow_fine {l : List Itm} (h : CRow l) : Fine l := fun i hi => by
  rcases h i hi with h | h <;> (show 0 ≤ d0 i ∧ d0 i ≤ 1099511627776 ∧ 0 ≤ d1 i ∧ d1 i ≤ 1099511627776; omega)
theorem crow_cons {i : Itm} {l : List Itm} (h : CRow (i :: l)) : okC i ∧ CRow l := ⟨h i (List.mem_cons_self ..), fun j hj => h j (List.mem_cons_of_mem _ hj)⟩
theorem rowK_crow {t : Int} (ht : t ≤ 1099511627776) : (f : Int) → (l : List Span) → 0 ≤ f → Spans f t l → CRow (rowK t f l)
  | f, [], h0, h => by
    have h : f ≤ t := h
    unfold rowK
    split
    · intro i hi
      rw [List.mem_singleton.1 hi]
      exact .inl ⟨rfl, rfl, by show 1 ≤ t - f; omega, by show t - f ≤ _; omega⟩
    · intro i hi; cases hi
  | f, x :: r, h0, h => by
    obtain ⟨h1, h2, h3⟩ := h
    have h4 := spans_le h3
    have ih := rowK_crow ht x.2.1 r (by omega) h3
    have fo : okC (foldC (x.2.1 - x.1)) := .inr ⟨rfl, rfl, by show 1 ≤ x.2.1 - x.1; omega, by show x.2.1 - x.1 ≤ _; omega⟩
    unfold rowK
    by_cases hx : x.1 > f
    · rw [if_pos hx]
      intro i hi
      rcases List.mem_cons.1 hi with e | hi
      · subst e; exact .inl ⟨rfl, rfl, by show 1 ≤ x.1 - f; omega, by show x.1 - f ≤ _; omega⟩
      · rcases List.mem_cons.1 hi with e | hi
        · subst e; exact fo
        · exact ih i hi
    · rw [if_neg hx]
      intro i hi
      rcases List.mem_cons.1 hi with e | hi
      · subst e; exact fo
      · exact ih i hi
theorem rowK_check {t : Int} (ht : t ≤ 1099511627776) {f : Int} {l : List Span} (h0 : 0 ≤ f) (h : Spans f t l) : ∀ i ∈ rowK t f l, checkI i = 0 := by
  have cp : ∀ n : Int, 0 ≤ n → n ≤ 1099511627776 → checkI (plainC n) = 0 := fun n h0 h1 => by
    unfold checkI
    rw [if_pos]
    show (withinN 0 && withinN n && withinN n && withinN 0) = true
    simp [withinN, h0, h1]
  have cf : ∀ n : Int, 0 ≤ n → n ≤ 1099511627776 → checkI (foldC n) = 0 := fun n h0 h1 => by
    unfold checkI
    rw [if_pos]
    show (withinN 0 && withinN n && withinN 1 && withinN 0) = true
    simp [withinN, h0, h1]
  induction l generalizing f with
  | nil =>
    have h : f ≤ t := h
    unfold rowK
    split
    · intro i hi
      rw [List.mem_singleton.1 hi]
      exact cp _ (by omega) (by omega)
    · intro i hi; cases hi
  | cons x r ih =>
    obtain ⟨h1, h2, h3⟩ := h
    have h4 := spans_le h3
    have ih := ih (f := x.2.1) (by omega) h3
    unfold rowK
    by_cases hx : x.1 > f
    · rw [if_pos hx]
      intro i hi
      rcases List.mem_cons.1 hi with e | hi
      · subst e; exact cp _ (by omega) (by omega)
      · rcases List.mem_cons.1 hi with e | hi
        · subst e; exact cf _ (by omega) (by omega)
        · exact ih i hi
    · rw [if_neg hx]
      intro i hi
      rcases List.mem_cons.1 hi with e | hi
      · subst e; exact cf _ (by omega) (by omega)
      · exact ih i hi
theorem hides_none {l : List Span} {a : Int} (h : ∀ x ∈ l, ¬ (x.1 ≤ a ∧ a < x.2.1)) : hidX l a = none := by
  unfold hidX
  rw [List.find?_eq_none]
  intro x hx
  simpa using h x hx
theorem hides_skip {p l : List Span} {a : Int} (h : ∀ x ∈ p, ¬ (x.1 ≤ a ∧ a < x.2.1)) : hidX (p ++ l) a = hidX l a := by
  unfold hidX
  rw [List.find?_append]
  have := hides_none h
  unfold hidX at this
  rw [this]
  rfl
theorem hides_head {x : Span} {l : List Span} {a : Int} (h : x.1 ≤ a ∧ a < x.2.1) : hidX (x :: l) a = some x := by
  unfold hidX
  rw [List.find?_cons_of_pos]
  simpa using h
def expC (b : Int) : List Itm → List Int
  | [] => []
  | i :: r => (if i.1 = 1 then [b] else (List.range (d0 i).toNat).map fun k : Nat => b + (k : Int)) ++ expC (b + d0 i) r
def headC (b : Int) (i : Itm) : List Int := if i.1 = 1 then [b] else (List.range (d0 i).toNat).map fun k : Nat => b + (k : Int)
theorem expC_cons (b : Int) (i : Itm) (r : List Itm) : expC b (i :: r) = headC b i ++ expC (b + d0 i) r := rfl
theorem headC_len {b : Int} {i : Itm} (h : okC i) : ((headC b i).length : Int) = d1 i := by
  unfold headC
  rcases h with h | h
  · rw [if_neg (by omega), List.length_map, List.length_range]; omega
  · rw [if_pos h.1, h.2.1]; rfl
theorem expC_len : {l : List Itm} → (b : Int) → CRow l → ((expC b l).length : Int) = sum1 l
  | [], _, _ => rfl
  | i :: l, b, h => by
    obtain ⟨h1, h2⟩ := crow_cons h
    have ih := expC_len (b + d0 i) h2
    have := headC_len (b := b) h1
    rw [expC_cons, List.length_append, sum1_cons]
    omega
def fromN (f : Int) (n : Nat) : List Int := (List.range n).map fun k : Nat => f + (k : Int)
theorem fromN_succ (f : Int) (n : Nat) : fromN f (n + 1) = f :: fromN (f + 1) n := by
  unfold fromN
  rw [List.range_succ_eq_map, List.map_cons, List.map_map]
  congr 1
  · omega
  · refine List.map_congr_left fun k _ => ?_
    show f + ((k + 1 : Nat) : Int) = f + 1 + (k : Int)
    omega
theorem fromN_add (f : Int) (m n : Nat) : fromN f (m + n) = fromN f m ++ fromN (f + m) n := by
  induction m generalizing f with
  | zero => simp [fromN]
  | succ m ih =>
    rw [show m + 1 + n = (m + n) + 1 by omega, fromN_succ, ih (f + 1), fromN_succ, List.cons_append]
    congr 2
    congr 1
    omega
def isStart (l : List Span) (a : Int) : Bool := match hidX l a with | none => true | some x => decide (x.1 = a)
theorem starts_row {m : Int} : (f : Int) → (p l : List Span) → (∀ x ∈ p, x.2.1 ≤ f) → Spans f m l → (fromN f (m - f).toNat).filter (isStart (p ++ l)) = expC f (rowK m f l)
  | f, p, [], hp, h => by
    have h : f ≤ m := h
    have e : (fromN f (m - f).toNat).filter (isStart (p ++ [])) = fromN f (m - f).toNat := by
      rw [List.filter_eq_self]
      intro a ha
      obtain ⟨k, _, rfl⟩ := List.mem_map.1 ha
      unfold isStart
      rw [hides_skip (fun x hx => by have := hp x hx; omega)]
      rfl
    rw [e]
    unfold rowK
    by_cases ht : m > f
    · rw [if_pos ht]
      show _ = headC f (plainC (m - f)) ++ []
      rw [List.append_nil]
      rfl
    · rw [if_neg ht, show (m - f).toNat = 0 by omega]
      rfl
  | f, p, x :: r, hp, h => by
    obtain ⟨h1, h2, h3⟩ := h
    have h4 := spans_le h3
    have e0 : (m - f).toNat = (x.1 - f).toNat + (1 + ((x.2.1 - x.1 - 1).toNat + (m - x.2.1).toNat)) := by omega
    rw [e0, fromN_add, fromN_add, fromN_add, List.filter_append, List.filter_append, List.filter_append]
    have p1 : (fromN f (x.1 - f).toNat).filter (isStart (p ++ x :: r)) = fromN f (x.1 - f).toNat := by
      rw [List.filter_eq_self]
      intro a ha
      obtain ⟨k, hk, rfl⟩ := List.mem_map.1 ha
      have hk := List.mem_range.1 hk
      unfold isStart
      rw [hides_skip (fun y hy => by have := hp y hy; omega), hides_none (fun y hy => by
        rcases List.mem_cons.1 hy with e | hy
        · subst e; omega
        · have := (spans_all h3 y hy).1; omega)]
    have ex : f + ((x.1 - f).toNat : Int) = x.1 := by omega
    rw [ex]
    have p2 : (fromN x.1 1).filter (isStart (p ++ x :: r)) = [x.1] := by
      have : fromN x.1 1 = [x.1] := by rw [fromN_succ]; rfl
      rw [this, List.filter_cons_of_pos]
      · rfl
      · unfold isStart
        rw [hides_skip (fun y hy => by have := hp y hy; omega), hides_head (by omega)]
        simp
    have p3 : (fromN (x.1 + ((1 : Nat) : Int)) (x.2.1 - x.1 - 1).toNat).filter (isStart (p ++ x :: r)) = [] := by
      rw [List.filter_eq_nil_iff]
      intro a ha
      obtain ⟨k, hk, rfl⟩ := List.mem_map.1 ha
      have hk := List.mem_range.1 hk
      unfold isStart
      rw [hides_skip (fun y hy => by have := hp y hy; omega), hides_head (by omega)]
      simp
      omega
    have ey : x.1 + ((1 : Nat) : Int) + ((x.2.1 - x.1 - 1).toNat : Int) = x.2.1 := by omega
    have p4 := starts_row (m := m) x.2.1 (p ++ [x]) r (fun y hy => by
      rcases List.mem_append.1 hy with hy | hy
      · have := hp y hy; omega
      · rw [List.mem_singleton.1 hy]; omega) h3
    rw [List.append_assoc, List.singleton_append] at p4
    rw [p1, p2, p3, ey, p4, List.nil_append]
    have er : rowK m f (x :: r) = if x.1 > f then plainC (x.1 - f) :: foldC (x.2.1 - x.1) :: rowK m x.2.1 r else foldC (x.2.1 - x.1) :: rowK m x.2.1 r := rfl
    rw [er]
    have ef : ∀ R, expC x.1 (foldC (x.2.1 - x.1) :: R) = [x.1] ++ expC x.2.1 R := fun R => by
      have e2 : x.1 + d0 (foldC (x.2.1 - x.1)) = x.2.1 := by show x.1 + (x.2.1 - x.1) = _; omega
      rw [expC_cons, e2]
      rfl
    by_cases hx : x.1 > f
    · rw [if_pos hx, expC_cons]
      have e1 : f + d0 (plainC (x.1 - f)) = x.1 := by show f + (x.1 - f) = _; omega
      rw [e1, ef]
      rfl
    · rw [if_neg hx, show (x.1 - f).toNat = 0 by omega]
      have e : f = x.1 := by omega
      rw [e, ef]
      rfl
def outC (a : Int) : List Itm → Int → Int → Int
  | [], b, c => c + (a - b)
  | i :: r, b, c => if a < b + d0 i then (if i.1 = 1 then c else c + (a - b)) else outC a r (b + d0 i) (c + d1 i)
def inC (a : Int) : List Itm → Int → Int → Int
  | [], b, c => b + (a - c)
  | i :: r, b, c => if a < c + d1 i then b + (a - c) else inC a r (b + d0 i) (c + d1 i)
def wantC (a : Int) : List Itm → Int → Int
  | [], _ => a
  | i :: r, b => if a < b + d0 i then (if i.1 = 1 then b else a) else wantC a r (b + d0 i)
theorem inC_ge : (l : List Itm) → (a b c : Int) → CRow l → c ≤ a → b ≤ inC a l b c
  | [], a, b, c, _, h => by show b ≤ b + (a - c); omega
  | i :: l, a, b, c, h, h0 => by
    obtain ⟨h1, h2⟩ := crow_cons h
    show b ≤ if a < c + d1 i then b + (a - c) else inC a l (b + d0 i) (c + d1 i)
    split
    · omega
    · have := inC_ge l a (b + d0 i) (c + d1 i) h2 (by omega)
      rcases h1 with h1 | h1 <;> omega
theorem outC_ge : (l : List Itm) → (a b c : Int) → CRow l → b ≤ a → c ≤ outC a l b c
  | [], a, b, c, _, h => by show c ≤ c + (a - b); omega
  | i :: l, a, b, c, h, h0 => by
    obtain ⟨h1, h2⟩ := crow_cons h
    show c ≤ if a < b + d0 i then (if i.1 = 1 then c else c + (a - b)) else outC a l (b + d0 i) (c + d1 i)
    split
    · split <;> omega
    · have := outC_ge l a (b + d0 i) (c + d1 i) h2 (by omega)
      rcases h1 with h1 | h1 <;> omega
theorem out_in : (l : List Itm) → (a b c : Int) → CRow l → c ≤ a → outC (inC a l b c) l b c = a
  | [], a, b, c, _, h => by show c + (b + (a - c) - b) = a; omega
  | i :: l, a, b, c, h, h0 => by
    obtain ⟨h1, h2⟩ := crow_cons h
    show (if (if a < c + d1 i then b + (a - c) else inC a l (b + d0 i) (c + d1 i)) < b + d0 i then _ else _) = a
    by_cases hc : a < c + d1 i
    · have e : inC a (i :: l) b c = b + (a - c) := by show (if _ then _ else _) = _; rw [if_pos hc]
      rw [if_pos hc, if_pos (by rcases h1 with h1 | h1 <;> omega), e]
      rcases h1 with h1 | h1
      · rw [if_neg (by omega)]; omega
      · rw [if_pos h1.1]; omega
    · have g := inC_ge l a (b + d0 i) (c + d1 i) h2 (by omega)
      have e : inC a (i :: l) b c = inC a l (b + d0 i) (c + d1 i) := by show (if _ then _ else _) = _; rw [if_neg hc]
      rw [if_neg hc, if_neg (by omega), e]
      exact out_in l a (b + d0 i) (c + d1 i) h2 (by omega)
theorem in_out2 : (l : List Itm) → (a b c : Int) → CRow l → b ≤ a → inC (outC a l b c) l b c = wantC a l b
  | [], a, b, c, _, h => by show b + (c + (a - b) - c) = a; omega
  | i :: l, a, b, c, h, h0 => by
    obtain ⟨h1, h2⟩ := crow_cons h
    have ew : wantC a (i :: l) b = if a < b + d0 i then (if i.1 = 1 then b else a) else wantC a l (b + d0 i) := rfl
    by_cases hc : a < b + d0 i
    · have e : outC a (i :: l) b c = if i.1 = 1 then c else c + (a - b) := by show (if _ then _ else _) = _; rw [if_pos hc]
      rw [ew, if_pos hc, e]
      rcases h1 with h1 | h1
      · rw [if_neg (by omega), if_neg (by omega)]
        show (if c + (a - b) < c + d1 i then _ else _) = _
        rw [if_pos (by omega)]; omega
      · rw [if_pos h1.1, if_pos h1.1]
        show (if c < c + d1 i then _ else _) = _
        rw [if_pos (by omega)]; omega
    · have g := outC_ge l a (b + d0 i) (c + d1 i) h2 (by omega)
      have e : outC a (i :: l) b c = outC a l (b + d0 i) (c + d1 i) := by show (if _ then _ else _) = _; rw [if_neg hc]
      rw [ew, if_neg hc, e]
      show (if outC a l (b + d0 i) (c + d1 i) < c + d1 i then _ else _) = _
      rw [if_neg (by omega)]
      exact in_out2 l a (b + d0 i) (c + d1 i) h2 (by omega)
theorem inC_up : (l : List Itm) → (a b c : Int) → CRow l → c ≤ a → inC a l b c < inC (a + 1) l b c
  | [], a, b, c, _, h => by show b + (a - c) < b + (a + 1 - c); omega
  | i :: l, a, b, c, h, h0 => by
    obtain ⟨h1, h2⟩ := crow_cons h
    have e : ∀ a, inC a (i :: l) b c = if a < c + d1 i then b + (a - c) else inC a l (b + d0 i) (c + d1 i) := fun _ => rfl
    rw [e, e]
    by_cases hc : a + 1 < c + d1 i
    · rw [if_pos (by omega), if_pos hc]; omega
    · rw [if_neg hc]
      have g := inC_ge l (a + 1) (b + d0 i) (c + d1 i) h2 (by omega)
      by_cases hc2 : a < c + d1 i
      · rw [if_pos hc2]
        rcases h1 with h1 | h1 <;> omega
      · rw [if_neg hc2]
        exact inC_up l a (b + d0 i) (c + d1 i) h2 (by omega)
theorem outC_up : (l : List Itm) → (a b c : Int) → CRow l → b ≤ a → outC a l b c ≤ outC (a + 1) l b c
  | [], a, b, c, _, h => by show c + (a - b) ≤ c + (a + 1 - b); omega
  | i :: l, a, b, c, h, h0 => by
    obtain ⟨h1, h2⟩ := crow_cons h
    have e : ∀ a, outC a (i :: l) b c = if a < b + d0 i then (if i.1 = 1 then c else c + (a - b)) else outC a l (b + d0 i) (c + d1 i) := fun _ => rfl
    rw [e, e]
    by_cases hc : a + 1 < b + d0 i
    · rw [if_pos (by omega), if_pos hc]
      split <;> omega
    · rw [if_neg hc]
      have g := outC_ge l (a + 1) (b + d0 i) (c + d1 i) h2 (by omega)
      by_cases hc2 : a < b + d0 i
      · rw [if_pos hc2]
        rcases h1 with h1 | h1
        · rw [if_neg (by omega)]; omega
        · rw [if_pos h1.1]; omega
      · rw [if_neg hc2]
        exact outC_up l a (b + d0 i) (c + d1 i) h2 (by omega)
theorem outC_end : (l : List Itm) → (b c : Int) → CRow l → outC (b + sum0 l) l b c = c + sum1 l
  | [], b, c, _ => by show c + (b + 0 - b) = c + 0; omega
  | i :: l, b, c, h => by
    obtain ⟨h1, h2⟩ := crow_cons h
    have hs := sums_fine (crow_fine h2)
    rw [sum0_cons, sum1_cons]
    show (if b + (d0 i + sum0 l) < b + d0 i then _ else outC (b + (d0 i + sum0 l)) l (b + d0 i) (c + d1 i)) = _
    rw [if_neg (by omega), show b + (d0 i + sum0 l) = b + d0 i + sum0 l by omega, outC_end l _ _ h2]
    omega
theorem inC_end : (l : List Itm) → (b c : Int) → CRow l → inC (c + sum1 l) l b c = b + sum0 l
  | [], b, c, _ => by show b + (c + 0 - c) = b + 0; omega
  | i :: l, b, c, h => by
    obtain ⟨h1, h2⟩ := crow_cons h
    have hs := sums_fine (crow_fine h2)
    rw [sum0_cons, sum1_cons]
    show (if c + (d1 i + sum1 l) < c + d1 i then _ else inC (c + (d1 i + sum1 l)) l (b + d0 i) (c + d1 i)) = _
    rw [if_neg (by omega), show c + (d1 i + sum1 l) = c + d1 i + sum1 l by omega, inC_end l _ _ h2]
    omega
theorem outC_find {a : Int} : (l : List Itm) → (k b c : Int) → ∃ j : Nat, (findC 0 a 1 l k b c).1 = k + (j : Int) ∧ j ≤ l.length ∧
    outC a l b c = (if (l.getD j zItm).1 = 1 then (findC 0 a 1 l k b c).2.2 else (findC 0 a 1 l k b c).2.2 + (a - (findC 0 a 1 l k b c).2.1))
  | [], k, b, c => ⟨0, by show k = _; omega, Nat.zero_le _, rfl⟩
  | i :: l, k, b, c => by
    have e : findC 0 a 1 (i :: l) k b c = if reach a 1 (b + d0 i) = true then (k, b, c) else findC 0 a 1 l (k + 1) (b + d0 i) (c + d1 i) := rfl
    have e2 : outC a (i :: l) b c = if a < b + d0 i then (if i.1 = 1 then c else c + (a - b)) else outC a l (b + d0 i) (c + d1 i) := rfl
    rw [e, e2]
    by_cases hr : a < b + d0 i
    · rw [if_pos (show reach a 1 (b + d0 i) = true by unfold reach; simp; omega), if_pos hr]
      exact ⟨0, by show k = _; omega, Nat.zero_le _, rfl⟩
    · rw [if_neg (show ¬ reach a 1 (b + d0 i) = true by unfold reach; simp; omega), if_neg hr]
      obtain ⟨j, h1, h2, h3⟩ := outC_find l (k + 1) (b + d0 i) (c + d1 i)
      exact ⟨j + 1, by rw [h1]; omega, by simp; omega, h3⟩
theorem inC_find {a : Int} : (l : List Itm) → (k b c : Int) → inC a l b c = (findC 1 a 1 l k b c).2.1 + (a - (findC 1 a 1 l k b c).2.2)
  | [], k, b, c => rfl
  | i :: l, k, b, c => by
    have e : findC 1 a 1 (i :: l) k b c = if reach a 1 (c + d1 i) = true then (k, b, c) else findC 1 a 1 l (k + 1) (b + d0 i) (c + d1 i) := rfl
    have e2 : inC a (i :: l) b c = if a < c + d1 i then b + (a - c) else inC a l (b + d0 i) (c + d1 i) := rfl
    rw [e, e2]
    by_cases hr : a < c + d1 i
    · rw [if_pos (show reach a 1 (c + d1 i) = true by unfold reach; simp; omega), if_pos hr]
    · rw [if_neg (show ¬ reach a 1 (c + d1 i) = true by unfold reach; simp; omega), if_neg hr]
      exact inC_find l (k + 1) (b + d0 i) (c + d1 i)
theorem expC_get : (l : List Itm) → (a b c : Int) → CRow l → c ≤ a → a < c + sum1 l → (expC b l).getD (a - c).toNat 0 = inC a l b c
  | [], a, b, c, _, h0, h1 => by rw [show sum1 [] = 0 from rfl] at h1; omega
  | i :: l, a, b, c, h, h0, h1 => by
    obtain ⟨g1, g2⟩ := crow_cons h
    have hl := headC_len (b := b) g1
    rw [sum1_cons] at h1
    have e2 : inC a (i :: l) b c = if a < c + d1 i then b + (a - c) else inC a l (b + d0 i) (c + d1 i) := rfl
    rw [expC_cons, e2]
    by_cases hr : a < c + d1 i
    · rw [if_pos hr, getD_app_l _ (by omega)]
      unfold headC at hl ⊢
      rcases g1 with g | g
      · rw [if_neg (by omega), List.getD_eq_getElem?_getD, List.getElem?_map, List.getElem?_range (by omega)]
        show b + (((a - c).toNat : Nat) : Int) = _
        omega
      · rw [if_pos g.1, show (a - c).toNat = 0 by omega]
        show b = _
        omega
    · rw [if_neg hr, getD_app_r _ (by omega), show (a - c).toNat - (headC b i).length = (a - (c + d1 i)).toNat by omega]
      exact expC_get l a (b + d0 i) (c + d1 i) g2 (by omega) (by omega)
def aheadN (a : Int) (l : List Int) : Nat := l.countP fun x => decide (x < a)
theorem expC_ge : (l : List Itm) → (b : Int) → CRow l → ∀ x ∈ expC b l, b ≤ x
  | [], _, _ => fun x hx => by cases hx
  | i :: l, b, h => by
    obtain ⟨g1, g2⟩ := crow_cons h
    have ih := expC_ge l (b + d0 i) g2
    intro x hx
    rw [expC_cons] at hx
    rcases List.mem_append.1 hx with hx | hx
    · unfold headC at hx
      split at hx
      · rw [List.mem_singleton.1 hx]; omega
      · obtain ⟨k, _, rfl⟩ := List.mem_map.1 hx; omega
    · have := ih x hx
      rcases g1 with g | g <;> omega
theorem ahead_head {a b : Int} {i : Itm} (h : okC i) (h0 : b ≤ a) : (aheadN a (headC b i) : Int) = if a < b + d0 i then (if i.1 = 1 then (if b < a then 1 else 0) else a - b) else d1 i := by
  unfold aheadN headC
  rcases h with h | h
  · have hn : ¬ i.1 = 1 := by omega
    rw [if_neg hn, if_neg hn]
    have : ∀ n : Nat, (((List.range n).map fun k : Nat => b + (k : Int)).countP fun x => decide (x < a)) = min n (a - b).toNat := by
      intro n
      induction n with
      | zero => simp
      | succ n ih =>
        rw [List.range_succ, List.map_append, List.countP_append, ih]
        by_cases hc : b + (n : Int) < a
        · simp [hc]; omega
        · simp [hc]; omega
    rw [this]
    split <;> omega
  · rw [if_pos h.1, if_pos h.1]
    by_cases hc : b < a
    · rw [if_pos hc]
      have : ([b].countP fun x => decide (x < a)) = 1 := by simp [hc]
      rw [this]
      split <;> omega
    · rw [if_neg hc]
      have : ([b].countP fun x => decide (x < a)) = 0 := by simp [hc]
      rw [this]
      split <;> omega
def insideC (a : Int) : List Itm → Int → Bool
  | [], _ => false
  | i :: r, b => if a < b + d0 i then decide (i.1 = 1 ∧ b < a) else insideC a r (b + d0 i)
theorem ahead_none {a : Int} {l : List Int} (h : ∀ x ∈ l, ¬ x < a) : aheadN a l = 0 := by
  unfold aheadN
  rw [List.countP_eq_zero]
  intro x hx
  simpa using h x hx
theorem ahead_all : (l : List Itm) → (a b c : Int) → CRow l → b ≤ a → a ≤ b + sum0 l → c + (aheadN a (expC b l) : Int) - (if insideC a l b = true then 1 else 0) = outC a l b c
  | [], a, b, c, _, h0, h1 => by
    rw [show sum0 [] = 0 from rfl] at h1
    show c + ((0 : Nat) : Int) - 0 = c + (a - b)
    omega
  | i :: l, a, b, c, h, h0, h1 => by
    obtain ⟨g1, g2⟩ := crow_cons h
    rw [sum0_cons] at h1
    have ea : aheadN a (expC b (i :: l)) = aheadN a (headC b i) + aheadN a (expC (b + d0 i) l) := by rw [expC_cons]; exact List.countP_append ..
    have eo : outC a (i :: l) b c = if a < b + d0 i then (if i.1 = 1 then c else c + (a - b)) else outC a l (b + d0 i) (c + d1 i) := rfl
    have ei : insideC a (i :: l) b = if a < b + d0 i then decide (i.1 = 1 ∧ b < a) else insideC a l (b + d0 i) := rfl
    have hh := ahead_head (b := b) g1 h0
    rw [ea, eo, ei]
    by_cases hc : a < b + d0 i
    · rw [if_pos hc] at hh
      have hz : aheadN a (expC (b + d0 i) l) = 0 := ahead_none (fun x hx => by have := expC_ge l (b + d0 i) g2 x hx; omega)
      rw [hz, if_pos hc, if_pos hc]
      by_cases h1 : i.1 = 1
      · rw [if_pos h1] at hh
        rw [if_pos h1]
        by_cases h2 : b < a
        · rw [if_pos h2] at hh
          rw [decide_eq_true ⟨h1, h2⟩, if_pos rfl]; omega
        · rw [if_neg h2] at hh
          rw [decide_eq_false (fun hh => h2 hh.2), if_neg (by decide)]; omega
      · rw [if_neg h1] at hh
        rw [if_neg h1, decide_eq_false (fun hh => h1 hh.1), if_neg (by decide)]; omega
    · rw [if_neg hc] at hh
      rw [if_neg hc, if_neg hc]
      have := ahead_all l a (b + d0 i) (c + d1 i) g2 (by omega) (by omega)
      rw [← this]
      omega
end Go.Fr.Z16
namespace Go.Fr.Z16
open Go Go.Fr Go.Proofs
theorem hidF_cases (a : Int) : (l : List Span) → (i : Int) → 0 ≤ i → (hidesF a i l = -1 ∧ hidX l a = none) ∨ ∃ j : Nat, j < l.length ∧ hidesF a i l = i + (j : Int) ∧ hidX l a = some (l.getD j zSp)
  | [], _, _ => .inl ⟨rfl, rfl⟩
  | x :: r, i, h => by
    have e : hidesF a i (x :: r) = if x.1 ≤ a ∧ a < x.2.1 then i else hidesF a (i + 1) r := rfl
    by_cases hx : x.1 ≤ a ∧ a < x.2.1
    · exact .inr ⟨0, by simp, by rw [e, if_pos hx]; omega, hides_head hx⟩
    · have e2 : hidX (x :: r) a = hidX r a := by
        unfold hidX
        rw [List.find?_cons_of_neg]
        simpa using hx
      rw [e, if_neg hx, e2]
      rcases hidF_cases a r (i + 1) (by omega) with h1 | ⟨j, h1, h2, h3⟩
      · exact .inl h1
      · exact .inr ⟨j + 1, by simp; omega, by rw [h2]; omega, h3⟩
theorem hid_cases (l : List Span) (a : Int) : (hidesI l a = -1 ∧ hidX l a = none) ∨ ∃ x, 0 ≤ hidesI l a ∧ l.getD (hidesI l a).toNat zSp = x ∧ hidX l a = some x := by
  rcases hidF_cases a l 0 (Int.le_refl _) with h | ⟨j, _, h2, h3⟩
  · exact .inl h
  · refine .inr ⟨_, ?_, rfl, ?_⟩
    · show 0 ≤ hidesF a 0 l; omega
    · rw [h3]
      congr 2
      show j = (hidesF a 0 l).toNat
      omega
theorem startB_eq (l : List Span) (a : Int) : startB l a = isStart l a := by
  unfold startB isStart
  rcases hid_cases l a with ⟨h1, h2⟩ | ⟨x, h1, h2, h3⟩
  · rw [h1, h2]; rfl
  · rw [h2, h3]
    have : decide (hidesI l a < 0) = false := decide_eq_false (by omega)
    rw [this]
    rfl
theorem starts_eq {m : Int} {l : List Span} (h : Spans 0 m l) : starts m l = expC 0 (rowK m 0 l) := by
  have := starts_row 0 [] l (fun x hx => by cases hx) h
  rw [List.nil_append] at this
  rw [← this]
  unfold starts fromN
  rw [show m - 0 = m by omega]
  congr 1
  · funext a; exact startB_eq l a
  · exact List.map_congr_left fun k _ => by omega
def pOf (i : Itm) : Pce := (if i.1 = 1 then i.2.2.1.1 else 0, i.2.2.1.2.1, ())
theorem pceC_hid {l : List Span} {x : Span} {a : Int} (out : List Pce) (h : hidX l a = some x) : pceC l out a = out ++ [(w64 (x.2.1 - x.1), 1, ())] := by
  rcases hid_cases l a with ⟨_, h2⟩ | ⟨y, h1, h2, h3⟩
  · rw [h] at h2; cases h2
  · rw [h] at h3
    injection h3 with h3
    unfold pceC
    rw [if_pos h1, h2, h3]
theorem pceC_plain {l : List Span} {a : Int} (out : List Pce) (h : hidX l a = none) : pceC l out a = if out ≠ [] ∧ (out.getD (out.length - 1) (0, 0, ())).1 = 0 then out.set (out.length - 1) ((out.getD (out.length - 1) (0, 0, ())).1, w64 ((out.getD (out.length - 1) (0, 0, ())).2.1 + 1), ()) else out ++ [(0, 1, ())] := by
  rcases hid_cases l a with ⟨h1, _⟩ | ⟨y, _, _, h3⟩
  · unfold pceC
    rw [if_neg (by omega)]
  · rw [h] at h3; cases h3
theorem plain_on {l : List Span} : (n : Nat) → (f : Int) → (out : List Pce) → (c : Int) → (∀ k : Nat, k < n → hidX l (f + (k : Int)) = none) → 0 ≤ c → c + (n : Int) ≤ 9000000000000000000 →
    (fromN f n).foldl (pceC l) (out ++ [(0, c, ())]) = out ++ [(0, c + (n : Int), ())]
  | 0, f, out, c, _, _, _ => by simp [fromN]
  | n + 1, f, out, c, h, h0, h1 => by
    rw [fromN_succ, List.foldl_cons]
    have e : pceC l (out ++ [(0, c, ())]) f = out ++ [(0, c + 1, ())] := by
      have h2 := h 0 (by omega)
      rw [show f + ((0 : Nat) : Int) = f by omega] at h2
      rw [pceC_plain _ h2, snoc_get, if_pos ⟨by simp, rfl⟩, snoc_set]
      show out ++ [((0 : Int), w64 (c + 1), ())] = _
      rw [w64_id (by omega) (by omega)]
    rw [e, plain_on n (f + 1) out (c + 1) (fun k hk => by
      have := h (k + 1) (by omega)
      rw [show f + ((k + 1 : Nat) : Int) = f + 1 + (k : Int) by omega] at this
      exact this) (by omega) (by omega)]
    rw [show c + 1 + (n : Int) = c + ((n + 1 : Nat) : Int) by omega]
def lastHid (out : List Pce) : Prop := out = [] ∨ (out.getD (out.length - 1) (0, 0, ())).1 ≠ 0
theorem plain_all {l : List Span} {n : Nat} {f : Int} {out : List Pce} (h : ∀ k : Nat, k < n → hidX l (f + (k : Int)) = none) (hn : 1 ≤ n) (hb : (n : Int) ≤ 1000000000000000000) (ho : lastHid out) :
    (fromN f n).foldl (pceC l) out = out ++ [(0, (n : Int), ())] := by
  obtain ⟨n, rfl⟩ : ∃ m, n = m + 1 := ⟨n - 1, by omega⟩
  rw [fromN_succ, List.foldl_cons]
  have e : pceC l out f = out ++ [(0, 1, ())] := by
    have h2 := h 0 (by omega)
    rw [show f + ((0 : Nat) : Int) = f by omega] at h2
    rw [pceC_plain _ h2, if_neg]
    rintro ⟨a, b⟩
    rcases ho with ho | ho
    · exact a ho
    · exact ho b
  rw [e, plain_on n (f + 1) out 1 (fun k hk => by
    have := h (k + 1) (by omega)
    rw [show f + ((k + 1 : Nat) : Int) = f + 1 + (k : Int) by omega] at this
    exact this) (by omega) (by omega)]
  rw [show (1 : Int) + (n : Int) = ((n + 1 : Nat) : Int) by omega]
theorem pieces_row {m : Int} (hm : m ≤ 1099511627776) : (f : Int) → (p l : List Span) → (out : List Pce) → 0 ≤ f → (∀ x ∈ p, x.2.1 ≤ f) → Spans f m l → lastHid out →
    (expC f (rowK m f l)).foldl (pceC (p ++ l)) out = out ++ (rowK m f l).map pOf
  | f, p, [], out, h0, hp, h, ho => by
    have h : f ≤ m := h
    unfold rowK
    by_cases ht : m > f
    · rw [if_pos ht]
      have e : expC f [plainC (m - f)] = fromN f (m - f).toNat := by
        rw [expC_cons]
        show headC f (plainC (m - f)) ++ [] = _
        rw [List.append_nil]
        rfl
      rw [e, plain_all (fun k hk => by rw [List.append_nil]; exact hides_none (fun x hx => by have := hp x hx; omega)) (by omega) (by omega) ho]
      show _ = out ++ [((0 : Int), m - f, ())]
      rw [show ((m - f).toNat : Int) = m - f by omega]
    · rw [if_neg ht]
      exact (List.append_nil _).symm
  | f, p, x :: r, out, h0, hp, h, ho => by
    obtain ⟨h1, h2, h3⟩ := h
    have h4 := spans_le h3
    have er : rowK m f (x :: r) = if x.1 > f then plainC (x.1 - f) :: foldC (x.2.1 - x.1) :: rowK m x.2.1 r else foldC (x.2.1 - x.1) :: rowK m x.2.1 r := rfl
    have ef : ∀ R, expC x.1 (foldC (x.2.1 - x.1) :: R) = [x.1] ++ expC x.2.1 R := fun R => by
      have e2 : x.1 + d0 (foldC (x.2.1 - x.1)) = x.2.1 := by show x.1 + (x.2.1 - x.1) = _; omega
      rw [expC_cons, e2]
      rfl
    have hx : hidX (p ++ x :: r) x.1 = some x := by
      rw [hides_skip (fun y hy => by have := hp y hy; omega), hides_head (by omega)]
    have hf : ∀ o : List Pce, (expC x.1 (foldC (x.2.1 - x.1) :: rowK m x.2.1 r)).foldl (pceC (p ++ x :: r)) o = o ++ (foldC (x.2.1 - x.1) :: rowK m x.2.1 r).map pOf := fun o => by
      rw [ef, List.foldl_append, List.foldl_cons, List.foldl_nil, pceC_hid o hx, w64_id (by omega) (by omega)]
      have ih := pieces_row hm x.2.1 (p ++ [x]) r (o ++ [(x.2.1 - x.1, 1, ())]) (by omega) (fun y hy => by
        rcases List.mem_append.1 hy with hy | hy
        · have := hp y hy; omega
        · rw [List.mem_singleton.1 hy]; omega) h3 (.inr (by rw [snoc_get]; show x.2.1 - x.1 ≠ 0; omega))
      rw [List.append_assoc, List.singleton_append] at ih
      rw [ih, List.map_cons, List.append_assoc]
      rfl
    rw [er]
    by_cases hc : x.1 > f
    · rw [if_pos hc]
      have e1 : f + d0 (plainC (x.1 - f)) = x.1 := by show f + (x.1 - f) = _; omega
      have e2 : headC f (plainC (x.1 - f)) = fromN f (x.1 - f).toNat := rfl
      rw [expC_cons, e1, e2, List.foldl_append, plain_all (fun k hk => by
        rw [hides_skip (fun y hy => by have := hp y hy; omega)]
        exact hides_none (fun y hy => by
          rcases List.mem_cons.1 hy with e | hy
          · subst e; omega
          · have := (spans_all h3 y hy).1; omega)) (by omega) (by omega) ho, hf, show ((x.1 - f).toNat : Int) = x.1 - f by omega, List.append_assoc]
      rfl
    · rw [if_neg hc]
      have e : f = x.1 := by omega
      rw [e]
      exact hf out
theorem refPieces_eq {m : Int} (hm : m ≤ 1099511627776) {l : List Span} (h : Spans 0 m l) : refPiecesC m l = (rowK m 0 l).map pOf := by
  unfold refPiecesC
  rw [starts_eq h]
  have := pieces_row hm 0 [] l [] (Int.le_refl _) (fun x hx => by cases hx) h (.inl rfl)
  rw [List.nil_append] at this
  rw [this, List.nil_append]
theorem rowK_sum0 {m : Int} : (f : Int) → (l : List Span) → Spans f m l → sum0 (rowK m f l) = m - f
  | f, [], h => by
    have h : f ≤ m := h
    unfold rowK
    split
    · show (m - f) + 0 = _; omega
    · show 0 = _; omega
  | f, x :: r, h => by
    obtain ⟨h1, h2, h3⟩ := h
    have ih := rowK_sum0 x.2.1 r h3
    unfold rowK
    by_cases hc : x.1 > f
    · rw [if_pos hc, sum0_cons, sum0_cons, ih]
      show (x.1 - f) + ((x.2.1 - x.1) + (m - x.2.1)) = _; omega
    · rw [if_neg hc, sum0_cons, ih]
      show (x.2.1 - x.1) + (m - x.2.1) = _; omega
theorem inside_row {m a : Int} : (f : Int) → (p l : List Span) → f ≤ a → (∀ x ∈ p, x.2.1 ≤ f) → Spans f m l →
    (insideC a (rowK m f l) f = true ↔ ∃ x, hidX (p ++ l) a = some x ∧ x.1 < a) ∧
    wantC a (rowK m f l) f = match hidX (p ++ l) a with | none => a | some x => x.1
  | f, p, [], ha, hp, h => by
    have hn : hidX (p ++ []) a = none := by
      rw [List.append_nil]
      exact hides_none (fun x hx => by have := hp x hx; omega)
    rw [hn]
    unfold rowK
    by_cases ht : m > f
    · rw [if_pos ht]
      refine ⟨⟨fun h => ?_, fun ⟨x, h, _⟩ => by cases h⟩, ?_⟩
      · have h : (if a < f + (m - f) then decide ((0 : Int) = 1 ∧ f < a) else false) = true := h
        split at h
        · have := of_decide_eq_true h; omega
        · cases h
      · show (if a < f + (m - f) then (if (0 : Int) = 1 then f else a) else a) = a
        split
        · rfl
        · rfl
    · rw [if_neg ht]
      exact ⟨⟨fun h => (by cases h), fun ⟨x, h, _⟩ => (by cases h)⟩, rfl⟩
  | f, p, x :: r, ha, hp, h => by
    obtain ⟨h1, h2, h3⟩ := h
    have h4 := spans_le h3
    have er : rowK m f (x :: r) = if x.1 > f then plainC (x.1 - f) :: foldC (x.2.1 - x.1) :: rowK m x.2.1 r else foldC (x.2.1 - x.1) :: rowK m x.2.1 r := rfl
    have hs : hidX (p ++ x :: r) a = hidX (x :: r) a := hides_skip (fun y hy => by have := hp y hy; omega)
    have ex : x.1 + (x.2.1 - x.1) = x.2.1 := by omega
    have ei : ∀ R, insideC a (foldC (x.2.1 - x.1) :: R) x.1 = if a < x.2.1 then decide ((1 : Int) = 1 ∧ x.1 < a) else insideC a R x.2.1 := fun R => by
      show (if a < x.1 + (x.2.1 - x.1) then decide ((1 : Int) = 1 ∧ x.1 < a) else insideC a R (x.1 + (x.2.1 - x.1))) = _
      rw [ex]
    have ew : ∀ R, wantC a (foldC (x.2.1 - x.1) :: R) x.1 = if a < x.2.1 then x.1 else wantC a R x.2.1 := fun R => by
      show (if a < x.1 + (x.2.1 - x.1) then (if (1 : Int) = 1 then x.1 else a) else wantC a R (x.1 + (x.2.1 - x.1))) = _
      rw [ex, if_pos rfl]
    have hf : x.1 ≤ a → (insideC a (foldC (x.2.1 - x.1) :: rowK m x.2.1 r) x.1 = true ↔ ∃ y, hidX (p ++ x :: r) a = some y ∧ y.1 < a) ∧
        wantC a (foldC (x.2.1 - x.1) :: rowK m x.2.1 r) x.1 = match hidX (p ++ x :: r) a with | none => a | some x => x.1 := fun hx => by
      rw [ei, ew]
      by_cases hc : a < x.2.1
      · rw [if_pos hc, if_pos hc, hs, hides_head ⟨hx, hc⟩]
        refine ⟨⟨fun h => ⟨x, rfl, (of_decide_eq_true h).2⟩, fun ⟨y, e, hy⟩ => ?_⟩, rfl⟩
        injection e with e
        subst e
        exact decide_eq_true ⟨rfl, hy⟩
      · rw [if_neg hc, if_neg hc]
        have ih := inside_row (m := m) (a := a) x.2.1 (p ++ [x]) r (by omega) (fun y hy => by
          rcases List.mem_append.1 hy with hy | hy
          · have := hp y hy; omega
          · rw [List.mem_singleton.1 hy]; omega) h3
        rw [List.append_assoc, List.singleton_append] at ih
        exact ih
    rw [er]
    by_cases hc : x.1 > f
    · rw [if_pos hc]
      have e1 : f + d0 (plainC (x.1 - f)) = x.1 := by show f + (x.1 - f) = _; omega
      have ei2 : ∀ R, insideC a (plainC (x.1 - f) :: R) f = if a < x.1 then decide ((0 : Int) = 1 ∧ f < a) else insideC a R x.1 := fun R => by
        show (if a < f + d0 (plainC (x.1 - f)) then decide ((0 : Int) = 1 ∧ f < a) else insideC a R (f + d0 (plainC (x.1 - f)))) = _
        rw [e1]
      have ew2 : ∀ R, wantC a (plainC (x.1 - f) :: R) f = if a < x.1 then a else wantC a R x.1 := fun R => by
        show (if a < f + d0 (plainC (x.1 - f)) then (if (0 : Int) = 1 then f else a) else wantC a R (f + d0 (plainC (x.1 - f)))) = _
        rw [e1, if_neg (show ¬ (0 : Int) = 1 by decide)]
      rw [ei2, ew2]
      by_cases hx : a < x.1
      · have hn : hidX (x :: r) a = none := hides_none (fun y hy => by
          rcases List.mem_cons.1 hy with e | hy
          · subst e; omega
          · have := (spans_all h3 y hy).1; omega)
        rw [if_pos hx, if_pos hx, hs, hn]
        exact ⟨⟨fun h => by have := of_decide_eq_true h; omega, fun ⟨y, h, _⟩ => by cases h⟩, rfl⟩
      · rw [if_neg hx, if_neg hx]
        exact hf (by omega)
    · rw [if_neg hc]
      have e : f = x.1 := by omega
      rw [e]
      exact hf (by omega)
theorem refOutC_eq {m a : Int} (hm : m ≤ 1099511627776) {l : List Span} (h : Spans 0 m l) (h0 : 0 ≤ a) (h1 : a ≤ m) : refOutC m l a = outC a (rowK m 0 l) 0 0 := by
  have hc := rowK_crow hm 0 l (Int.le_refl _) h
  have hs := rowK_sum0 0 l h
  have aa := ahead_all (rowK m 0 l) a 0 0 hc h0 (by omega)
  obtain ⟨i1, _⟩ := inside_row (m := m) (a := a) 0 [] l h0 (fun x hx => by cases hx) h
  rw [List.nil_append] at i1
  unfold refOutC
  rw [starts_eq h, ← aa]
  have hl : ((expC 0 (rowK m 0 l)).length : Int) = sum1 (rowK m 0 l) := expC_len 0 hc
  have hle : aheadN a (expC 0 (rowK m 0 l)) ≤ (expC 0 (rowK m 0 l)).length := List.countP_le_length
  have hb := sums_fine (crow_fine hc)
  have hn := rowK_len (t := m) 0 l
  by_cases hi : insideC a (rowK m 0 l) 0 = true
  · obtain ⟨x, e, hx⟩ := i1.1 hi
    rcases hid_cases l a with ⟨_, g⟩ | ⟨y, g1, g2, g3⟩
    · rw [e] at g; cases g
    · rw [e] at g3
      injection g3 with g3
      rw [if_pos hi, if_pos ⟨g1, by rw [g2, ← g3]; exact hx⟩]
      have g := outC_ge (rowK m 0 l) a 0 0 hc h0
      rw [← aa, if_pos hi] at g
      unfold aheadN at hle g ⊢
      have hsm : (expC 0 (rowK m 0 l)).length ≤ 1099511627776 := by
        rw [← starts_eq h]
        have : (starts m l).length ≤ m.toNat := by
          unfold starts
          refine Nat.le_trans (List.length_filter_le _ _) ?_
          simp
        omega
      rw [w64_id (by omega) (by omega)]
      omega
  · rw [if_neg hi, if_neg]
    · unfold aheadN; omega
    · rintro ⟨g1, g2⟩
      rcases hid_cases l a with ⟨g, _⟩ | ⟨y, _, k2, k3⟩
      · omega
      · rw [k2] at g2
        exact hi (i1.2 ⟨y, k3, g2⟩)
theorem refInC_eq {m a : Int} (hm : m ≤ 1099511627776) {l : List Span} (h : Spans 0 m l) (h0 : 0 ≤ a) (h1 : a ≤ ((starts m l).length : Int)) : refInC m l a = inC a (rowK m 0 l) 0 0 := by
  have hc := rowK_crow hm 0 l (Int.le_refl _) h
  have hs := rowK_sum0 0 l h
  have hl : ((expC 0 (rowK m 0 l)).length : Int) = sum1 (rowK m 0 l) := expC_len 0 hc
  unfold refInC
  rw [starts_eq h] at h1 ⊢
  by_cases he : a = ((expC 0 (rowK m 0 l)).length : Int)
  · rw [if_pos he]
    have := inC_end (rowK m 0 l) 0 0 hc
    rw [he, hl, show sum1 (rowK m 0 l) = 0 + sum1 (rowK m 0 l) by omega, this]
    omega
  · rw [if_neg he]
    have := expC_get (rowK m 0 l) a 0 0 hc h0 (by omega)
    rw [show a - 0 = a by omega] at this
    exact this
end Go.Fr.Z16
namespace Go.Fr.Z16
open Go Go.Fr Go.Proofs
theorem dI3 : Ty.dflt t3 = (0 : Int) := rfl
theorem hid_in (l : List Span) (a : Int) (h : 0 ≤ hidesI l a) : hidesI l a < (l.length : Int) := by
  rcases hidF_cases a l 0 (Int.le_refl _) with ⟨h1, _⟩ | ⟨j, h1, h2, _⟩
  · have : hidesI l a = -1 := h1
    omega
  · have : hidesI l a = 0 + (j : Int) := h2
    omega
theorem p45 : vc45 := by
  unfold vc45
  simp only [eq_self, true_and, and_true, decide_eq_true_eq, decide_eq_false_iff_not]
  rintro ⟨l, p, ⟨⟩⟩
  simp only [maxLen_eq, d46]
  intro hl
  refine ⟨fun z => ∃ k : Nat, k ≤ l.length ∧ z.1 = (k : Int) ∧ hidesI l p = hidesF p (k : Int) (l.drop k), fun z => l.length - z.1.toNat, ⟨0, Nat.zero_le _, rfl, rfl⟩, ?_⟩
  rintro i ⟨k, hk, hi, hr⟩
  simp only at hi hr
  subst hi
  refine ⟨fun h => ?_, fun h => ?_⟩
  · have hlt : k < l.length := by omega
    have hw : IntKind.i64.wrap ((k : Int) + 1) = ((k + 1 : Nat) : Int) := wrap_succ (by omega)
    rw [toNat_cast, hw]
    simp only [toNat_cast]
    rw [drop_cons zSp hlt] at hr
    have e : hidesF p (k : Int) (l.getD k zSp :: l.drop (k + 1)) = if (l.getD k zSp).1 ≤ p ∧ p < (l.getD k zSp).2.1 then (k : Int) else hidesF p ((k : Int) + 1) (l.drop (k + 1)) := rfl
    rw [e] at hr
    generalize l.getD k zSp = x at hr ⊢
    have dec : l.length - (k + 1) < l.length - k := by omega
    have n : ¬ (x.1 ≤ p ∧ p < x.2.1) → ∃ k' : Nat, k' ≤ l.length ∧ ((k + 1 : Nat) : Int) = (k' : Int) ∧ hidesI l p = hidesF p (k' : Int) (l.drop k') := fun g => ⟨k + 1, hlt, rfl, by rw [hr, if_neg g]; rfl⟩
    refine ⟨⟨by omega, h⟩, fun g => ⟨fun g2 => ?_, fun g2 => ⟨n (fun hh => g2 hh.2), dec⟩⟩, fun g => ⟨n (fun hh => g hh.1), dec⟩⟩
    rw [hr, if_pos ⟨g, g2⟩]
  · rw [hr, show k = l.length by omega, List.drop_length]
    rfl
theorem p29 : vc29 := by
  unfold vc29
  simp only [eq_self, true_and, and_true, decide_eq_true_eq, decide_eq_false_iff_not]
  rintro ⟨l, p, ⟨⟩⟩
  simp only [maxLen_eq, d46]
  intro hl
  refine ⟨fun z => ∃ k : Nat, k ≤ l.length ∧ z.1 = (k : Int) ∧ acrossL l p = acrossL (l.drop k) p, fun z => l.length - z.1.toNat, ⟨0, Nat.zero_le _, rfl, rfl⟩, ?_⟩
  rintro i ⟨k, hk, hi, hr⟩
  simp only at hi hr
  subst hi
  refine ⟨fun h => ?_, fun h => ?_⟩
  · have hlt : k < l.length := by omega
    have hw : IntKind.i64.wrap ((k : Int) + 1) = ((k + 1 : Nat) : Int) := wrap_succ (by omega)
    rw [toNat_cast, hw]
    simp only [toNat_cast]
    rw [drop_cons zSp hlt] at hr
    have e : acrossL (l.getD k zSp :: l.drop (k + 1)) p = (acrossS (l.getD k zSp) p || acrossL (l.drop (k + 1)) p) := rfl
    rw [e] at hr
    generalize l.getD k zSp = x at hr ⊢
    have dec : l.length - (k + 1) < l.length - k := by omega
    have n : ¬ (x.1 < p ∧ p < x.2.1) → ∃ k' : Nat, k' ≤ l.length ∧ ((k + 1 : Nat) : Int) = (k' : Int) ∧ acrossL l p = acrossL (l.drop k') p := fun g => ⟨k + 1, hlt, rfl, by
      have : acrossS x p = false := by
        unfold acrossS
        simp
        omega
      rw [hr, this, Bool.false_or]⟩
    refine ⟨⟨by omega, h⟩, fun g => ⟨fun g2 => ?_, fun g2 => ⟨n (fun hh => g2 hh.2), dec⟩⟩, fun g => ⟨n (fun hh => g hh.1), dec⟩⟩
    have : acrossS x p = true := by
      unfold acrossS
      simp
      omega
    rw [hr, this, Bool.true_or]
  · rw [hr, show k = l.length by omega, List.drop_length]
    rfl
def MapAt {α β : Type} (f : α → β) (l : List α) (z : List β × Int × Unit) : Prop := ∃ k : Nat, k ≤ l.length ∧ z.2.1 = (k : Int) ∧ z.1 = (l.take k).map f
theorem map_step {α β : Type} (f : α → β) {l : List α} (d : α) {k : Nat} (h : k < l.length) : MapAt f l ((l.take k).map f ++ [f (l.getD k d)], ((k + 1 : Nat) : Int), ()) := ⟨k + 1, h, rfl, by
  rw [take_one d h, List.map_append]
  rfl⟩
theorem map_len {α β : Type} (f : α → β) {l : List α} {k : Nat} (h : k ≤ l.length) : ((l.take k).map f).length = k := by
  rw [List.length_map, List.length_take]
  omega
theorem p39 : vc39 := by
  unfold vc39
  simp only [eq_self, true_and, and_true, decide_eq_true_eq, decide_eq_false_iff_not]
  rintro ⟨w, l, ⟨⟩⟩
  simp only [maxLen_eq, d46]
  rintro ⟨hw0, hl⟩
  refine ⟨MapAt (fun x => ((outW w x.1 1).1, (outW w x.2.1 0).1, ())) l, fun z => l.length - z.2.1.toNat, ⟨0, Nat.zero_le _, rfl, rfl⟩, ?_⟩
  rintro a i ⟨k, hk, hi, ha⟩
  simp only at hi ha
  subst hi
  subst ha
  refine ⟨fun h => ?_, fun h => ?_⟩
  · have hlt : k < l.length := by omega
    have hw : IntKind.i64.wrap ((k : Int) + 1) = ((k + 1 : Nat) : Int) := wrap_succ (by omega)
    rw [toNat_cast, hw]
    simp only [toNat_cast, List.length_singleton, map_len _ hk]
    exact ⟨⟨by omega, h⟩, hw0, hw0, by omega, by omega, map_step _ zSp hlt, by omega⟩
  · rw [show k = l.length by omega, List.take_length]
    rfl
theorem p41 : vc41 := by
  unfold vc41
  simp only [eq_self, true_and, and_true, decide_eq_true_eq, decide_eq_false_iff_not]
  rintro ⟨s, l, ⟨⟩⟩
  simp only [maxLen_eq, d46]
  rintro ⟨hw0, hl⟩
  refine ⟨MapAt (fun x => (refOut s x.1 1, refOut s x.2.1 0, ())) l, fun z => l.length - z.2.1.toNat, ⟨0, Nat.zero_le _, rfl, rfl⟩, ?_⟩
  rintro a i ⟨k, hk, hi, ha⟩
  simp only at hi ha
  subst hi
  subst ha
  refine ⟨fun h => ?_, fun h => ?_⟩
  · have hlt : k < l.length := by omega
    have hw : IntKind.i64.wrap ((k : Int) + 1) = ((k + 1 : Nat) : Int) := wrap_succ (by omega)
    rw [toNat_cast, hw]
    simp only [toNat_cast, List.length_singleton, map_len _ hk]
    have st := map_step (fun x : Span => ((refOut s x.1 1, refOut s x.2.1 0, ()) : Span)) zSp hlt
    have dec : l.length - (k + 1) < l.length - k := by omega
    have b1 : (k + 1) * 16 ≤ 140737488355328 := by omega
    have b2 : k + 1 ≤ 9223372036854775807 := by omega
    simp only [hw0, st, dec, b1, b2, and_self, and_true, true_and]
    exact ⟨by omega, h⟩
  · rw [show k = l.length by omega, List.take_length]
    rfl
theorem p47 : vc47 := by
  unfold vc47
  simp only [eq_self, true_and, and_true, decide_eq_true_eq, decide_eq_false_iff_not, beq_iff_eq, beq_eq_false_iff_ne, ne_eq]
  rintro ⟨c, ⟨⟩⟩
  simp only [maxLen_eq, d95]
  intro hl
  have h2 : (items (topT (treeOf c))).length ≤ 10000 := hl.2
  have h3 : (items (topT (treeOf c))).length ≤ 100000 := by omega
  have ep : piecesC (treeOf c) = (items (topT (treeOf c))).map pOf := rfl
  rw [ep]
  refine ⟨⟨hl.1, h3⟩, ?_⟩
  generalize items (topT (treeOf c)) = l at h2
  refine ⟨MapAt pOf l, fun z => l.length - z.2.1.toNat, ⟨0, Nat.zero_le _, rfl, rfl⟩, ?_⟩
  rintro a i ⟨k, hk, hi, ha⟩
  simp only at hi ha
  subst hi
  subst ha
  refine ⟨fun h => ?_, fun h => ?_⟩
  · have hlt : k < l.length := by omega
    have hw : IntKind.i64.wrap ((k : Int) + 1) = ((k + 1 : Nat) : Int) := wrap_succ (by omega)
    rw [toNat_cast, hw]
    have st := map_step pOf zItm hlt
    simp only [toNat_cast, List.length_singleton, map_len _ hk]
    have dec : l.length - (k + 1) < l.length - k := by omega
    have y : (l.getD k zItm).1 = 1 → MapAt pOf l ((l.take k).map pOf ++ [((l.getD k zItm).2.2.1.1, (l.getD k zItm).2.2.1.2.1, ())], ((k + 1 : Nat) : Int), ()) := fun g => by
      unfold pOf at st ⊢
      rw [if_pos g] at st
      exact st
    have n : ¬ (l.getD k zItm).1 = 1 → MapAt pOf l ((l.take k).map pOf ++ [((0 : Int), (l.getD k zItm).2.2.1.2.1, ())], ((k + 1 : Nat) : Int), ()) := fun g => by
      unfold pOf at st ⊢
      rw [if_neg g] at st
      exact st
    (repeat' (first | apply And.intro | intro _))
    all_goals first
      | omega
      | exact y (by assumption)
      | exact n (by assumption)
      | exact dec
  · rw [show k = l.length by omega, List.take_length]
theorem starts_len (l : List Span) (k : Nat) : (((List.range k).map fun k : Nat => (k : Int)).filter (startB l)).length ≤ k := by
  refine Nat.le_trans (List.length_filter_le _ _) ?_
  rw [List.length_map, List.length_range]
  omega
theorem starts_snoc (l : List Span) (k : Nat) : ((List.range (k + 1)).map fun k : Nat => (k : Int)).filter (startB l) = ((List.range k).map fun k : Nat => (k : Int)).filter (startB l) ++ (if startB l (k : Int) = true then [(k : Int)] else []) := by
  rw [List.range_succ, List.map_append, List.filter_append]
  congr 1
  show List.filter (startB l) [(k : Int)] = _
  by_cases h : startB l (k : Int) = true
  · rw [List.filter_cons_of_pos h, if_pos h]; rfl
  · rw [List.filter_cons_of_neg h, if_neg h]; rfl
theorem p18 : vc18 := by
  unfold vc18
  simp only [eq_self, true_and, and_true, decide_eq_true_eq, decide_eq_false_iff_not, beq_iff_eq, beq_eq_false_iff_ne, ne_eq]
  rintro ⟨n, l, ⟨⟩⟩
  simp only [maxLen_eq, d46]
  rintro ⟨hn, hl⟩
  refine ⟨fun z => ∃ k : Nat, k ≤ n.toNat ∧ z.2.1 = (k : Int) ∧ z.1 = ((List.range k).map fun k : Nat => (k : Int)).filter (startB l), fun z => (n - z.2.1).toNat, ⟨0, Nat.zero_le _, rfl, rfl⟩, ?_⟩
  rintro a i ⟨k, hk, hi, ha⟩
  simp only at hi ha
  subst hi
  have la := starts_len l k
  rw [← ha] at la
  refine ⟨fun h => ?_, fun h => ?_⟩
  · have hw : IntKind.i64.wrap ((k : Int) + 1) = ((k + 1 : Nat) : Int) := wrap_succ (by omega)
    rw [hw]
    have hi := hid_in l (k : Int)
    have bk : k + 1 ≤ n.toNat := by omega
    have dec : (n - ((k + 1 : Nat) : Int)).toNat < (n - (k : Int)).toNat := by omega
    have b1 : (a.length + 1) * 8 ≤ 140737488355328 := by omega
    have b2 : a.length + 1 ≤ 9223372036854775807 := by omega
    have sn := starts_snoc l k
    rw [← ha] at sn
    have es : startB l (k : Int) = (decide (hidesI l (k : Int) < 0) || decide ((l.getD (hidesI l (k : Int)).toNat zSp).1 = (k : Int))) := rfl
    have y : hidesI l (k : Int) < 0 ∨ (l.getD (hidesI l (k : Int)).toNat zSp).1 = (k : Int) → ∃ k' : Nat, k' ≤ n.toNat ∧ ((k + 1 : Nat) : Int) = (k' : Int) ∧ a ++ [(k : Int)] = ((List.range k').map fun k : Nat => (k : Int)).filter (startB l) := fun g => ⟨k + 1, bk, rfl, by
      rw [sn, if_pos (by rw [es]; simpa using g)]⟩
    have no : ¬ (hidesI l (k : Int) < 0 ∨ (l.getD (hidesI l (k : Int)).toNat zSp).1 = (k : Int)) → ∃ k' : Nat, k' ≤ n.toNat ∧ ((k + 1 : Nat) : Int) = (k' : Int) ∧ a = ((List.range k').map fun k : Nat => (k : Int)).filter (startB l) := fun g => ⟨k + 1, bk, rfl, by
      rw [sn, if_neg (by rw [es]; simpa using g), List.append_nil]⟩
    simp only [List.length_singleton]
    refine ⟨hl, fun g => ⟨b1, b2, y (.inl g), dec⟩, fun g => ⟨⟨by omega, hi (by omega)⟩, fun g2 => ⟨b1, b2, y (.inr g2), dec⟩, fun g2 => ⟨no (fun hh => hh.elim g g2), dec⟩⟩⟩
  · rw [ha]
    unfold starts
    rw [show k = n.toNat by omega]
theorem count_snoc {l : List Int} {k : Nat} (p : Int) (h : k < l.length) : (l.take (k + 1)).countP (fun x => decide (x < p)) = (l.take k).countP (fun x => decide (x < p)) + (if l.getD k 0 < p then 1 else 0) := by
  rw [take_one 0 h, List.countP_append]
  congr 1
  by_cases g : l.getD k 0 < p
  · rw [if_pos g, List.countP_cons_of_pos (by simpa using g)]; rfl
  · rw [if_neg g, List.countP_cons_of_neg (by simpa using g)]; rfl
theorem starts_bd (n : Int) (l : List Span) : (starts n l).length ≤ n.toNat := starts_len l n.toNat
theorem p16 : vc16 := by
  unfold vc16
  simp only [eq_self, true_and, and_true, decide_eq_true_eq, decide_eq_false_iff_not]
  rintro ⟨n, l, p, ⟨⟩⟩
  simp only [maxLen_eq, d46, dI3]
  rintro ⟨hn, hl⟩
  refine ⟨⟨hn, hl⟩, ?_⟩
  have sb := starts_bd n l
  have er : refOutC n l p = if hidesI l p ≥ 0 ∧ (l.getD (hidesI l p).toNat zSp).1 < p then w64 ((((starts n l).countP fun x => decide (x < p) : Nat) : Int) - 1) else (((starts n l).countP fun x => decide (x < p) : Nat) : Int) := rfl
  rw [er]
  generalize starts n l = S at sb ⊢
  refine ⟨fun z => ∃ k : Nat, k ≤ S.length ∧ z.2.1 = (k : Int) ∧ z.1 = (((S.take k).countP fun x => decide (x < p) : Nat) : Int), fun z => S.length - z.2.1.toNat, ⟨0, Nat.zero_le _, rfl, rfl⟩, ?_⟩
  rintro a i ⟨k, hk, hi, ha⟩
  simp only at hi ha
  subst hi
  have hc : (S.take k).countP (fun x => decide (x < p)) ≤ S.length := Nat.le_trans List.countP_le_length (by rw [List.length_take]; omega)
  refine ⟨fun h => ?_, fun h => ?_⟩
  · have hlt : k < S.length := by omega
    have hw : IntKind.i64.wrap ((k : Int) + 1) = ((k + 1 : Nat) : Int) := wrap_succ (by omega)
    have hwa : IntKind.i64.wrap (a + 1) = a + 1 := wrap_id (by omega) (by omega)
    have cs := count_snoc p hlt
    rw [toNat_cast, hw, hwa]
    simp only [toNat_cast]
    have dec : S.length - (k + 1) < S.length - k := by omega
    refine ⟨⟨by omega, h⟩, fun g => ⟨⟨k + 1, hlt, rfl, ?_⟩, dec⟩, fun g => ⟨⟨k + 1, hlt, rfl, ?_⟩, dec⟩⟩
    · rw [if_pos g] at cs
      show a + 1 = _
      omega
    · rw [if_neg g] at cs
      show a = _
      omega
  · rw [show k = S.length by omega, List.take_length] at ha
    have hi := hid_in l p
    refine ⟨hl, fun g => ⟨⟨g, hi g⟩, fun g2 => ?_, fun g2 => ?_⟩, fun g => ?_⟩
    · rw [if_pos ⟨g, g2⟩, ha]
      rfl
    · rw [if_neg (fun hh => g2 hh.2), ha]
    · rw [if_neg (fun hh => g hh.1), ha]
end Go.Fr.Z16
namespace Go.Fr.Z16
open Go Go.Fr Go.Proofs
theorem beqS (a b : Span) : Ty.beq t46 a b = true ↔ a = b := by
  obtain ⟨a1, a2, ⟨⟩⟩ := a
  obtain ⟨b1, b2, ⟨⟩⟩ := b
  show (a1 == b1 && (a2 == b2 && true)) = true ↔ _
  simp
theorem beqS_f (a b : Span) : Ty.beq t46 a b = false ↔ a ≠ b := by
  cases h : Ty.beq t46 a b with
  | true => simp [(beqS a b).1 h]
  | false =>
    refine ⟨fun _ e => ?_, fun _ => rfl⟩
    rw [(beqS a b).2 e] at h
    cases h
def SameAt {α : Type} (a b : List α) (z : Int × Unit) : Prop := ∃ k : Nat, k ≤ a.length ∧ k ≤ b.length ∧ z.1 = (k : Int) ∧ a.take k = b.take k
theorem same_step {α : Type} {a b : List α} (d : α) {k : Nat} (h : k < a.length) (h2 : k < b.length) (ht : a.take k = b.take k) (he : a.getD k d = b.getD k d) : SameAt a b (((k + 1 : Nat) : Int), ()) :=
  ⟨k + 1, h, h2, rfl, by rw [take_one d h, take_one d h2, ht, he]⟩
theorem same_no1 {α : Type} [DecidableEq α] {a b : List α} {k : Nat} (h : k < a.length) (h2 : ¬ k < b.length) : false = decide (a = b) := (decide_eq_false fun e => by rw [e] at h; exact h2 h).symm
theorem same_no2 {α : Type} [DecidableEq α] {a b : List α} (d : α) {k : Nat} (h : ¬ a.getD k d = b.getD k d) : false = decide (a = b) := (decide_eq_false fun e => h (by rw [e])).symm
theorem same_end {α : Type} [DecidableEq α] {a b : List α} {k : Nat} (h : ¬ (k : Int) < (a.length : Int)) (hk : k ≤ a.length) (ht : a.take k = b.take k) : (((a.length : Nat) : Int) == ((b.length : Nat) : Int)) = decide (a = b) := by
  have e : k = a.length := by omega
  by_cases g : a.length = b.length
  · rw [e, List.take_length, g, List.take_length] at ht
    rw [decide_eq_true ht, beq_iff_eq]
    omega
  · rw [decide_eq_false (fun e => g (by rw [e])), beq_eq_false_iff_ne]
    omega
theorem same_loop {α : Type} [DecidableEq α] (d : α) (x y : List α) (hx : x.length ≤ 1000000) : ∃ (Z : Int × Unit → Prop), ∃ (μ : Int × Unit → Nat), Z (0, ()) ∧ ∀ i : Int, Z (i, ()) →
    (i < (x.length : Int) → (i ≥ (y.length : Int) → false = decide (x = y)) ∧ (¬ i ≥ (y.length : Int) → (0 ≤ i ∧ i < (x.length : Int)) ∧ (0 ≤ i ∧ i < (y.length : Int)) ∧ (¬ x.getD i.toNat d = y.getD i.toNat d → false = decide (x = y)) ∧
      (x.getD i.toNat d = y.getD i.toNat d → Z (IntKind.i64.wrap (i + 1), ()) ∧ μ (IntKind.i64.wrap (i + 1), ()) < μ (i, ())))) ∧
    (¬ i < (x.length : Int) → (((x.length : Nat) : Int) == ((y.length : Nat) : Int)) = decide (x = y)) := by
  refine ⟨SameAt x y, fun z => x.length - z.1.toNat, ⟨0, Nat.zero_le _, Nat.zero_le _, rfl, rfl⟩, ?_⟩
  rintro i ⟨k, h1, h2, hi, ht⟩
  simp only at hi
  subst hi
  refine ⟨fun h => ⟨fun g => same_no1 (k := k) (by omega) (by omega), fun g => ⟨by omega, by omega, fun e => same_no2 d e, fun e => ?_⟩⟩, fun h => same_end h h1 ht⟩
  have hw : IntKind.i64.wrap ((k : Int) + 1) = ((k + 1 : Nat) : Int) := wrap_succ (by omega)
  rw [toNat_cast] at e
  rw [hw]
  exact ⟨same_step d (by omega) (by omega) ht e, by simp only [toNat_cast]; omega⟩
def FilterAt {α : Type} (p : α → Bool) (l : List α) (z : List α × Int × Unit) : Prop := ∃ k : Nat, k ≤ l.length ∧ z.2.1 = (k : Int) ∧ z.1 = (l.take k).filter p
theorem filter_yes {α : Type} {p : α → Bool} {l a : List α} (d : α) {k : Nat} (h : k < l.length) (ha : a = (l.take k).filter p) (hp : p (l.getD k d) = true) : FilterAt p l (a ++ [l.getD k d], ((k + 1 : Nat) : Int), ()) :=
  ⟨k + 1, h, rfl, by rw [take_one d h, List.filter_append, ha, List.filter_cons_of_pos hp]; rfl⟩
theorem filter_no {α : Type} {p : α → Bool} {l a : List α} (d : α) {k : Nat} (h : k < l.length) (ha : a = (l.take k).filter p) (hp : p (l.getD k d) = false) : FilterAt p l (a, ((k + 1 : Nat) : Int), ()) :=
  ⟨k + 1, h, rfl, by rw [take_one d h, List.filter_append, ha, List.filter_cons_of_neg (by rw [hp]; decide)]; exact (List.append_nil _).symm⟩
theorem filter_len {α : Type} {p : α → Bool} {l a : List α} {k : Nat} (h : k ≤ l.length) (ha : a = (l.take k).filter p) : a.length ≤ k := by
  rw [ha]
  refine Nat.le_trans (List.length_filter_le _ _) ?_
  rw [List.length_take]
  omega
theorem p30 : vc30 := by
  unfold vc30
  simp only [eq_self, true_and, and_true, decide_eq_true_eq, decide_eq_false_iff_not, Bool.not_eq_true', Bool.not_eq_false', beqI, beqI_f, ne_eq]
  rintro ⟨l, m, s, ⟨⟩⟩
  simp only [maxLen_eq, dInl]
  rintro ⟨hl, hm⟩
  have eb : besideB l m s = decide (l.filter (besideP s) = m.filter (besideP s)) := rfl
  rw [eb]
  have loop : ∀ l : List Inl, l.length ≤ 100000 → ∀ K : List Inl → Prop, K (l.filter (besideP s)) → ∃ (Z : List Inl × Int × Unit → Prop), ∃ (μ : List Inl × Int × Unit → Nat), Z ([], 0, ()) ∧ ∀ (a : List Inl) (i : Int), Z (a, i, ()) →
      (i < (l.length : Int) → (0 ≤ i ∧ i < (l.length : Int)) ∧ ((l.getD i.toNat zI0).2.1 < s.1 → (a.length + [l.getD i.toNat zI0].length) * 48 ≤ 140737488355328 ∧ a.length + [l.getD i.toNat zI0].length ≤ 9223372036854775807 ∧ Z (a ++ [l.getD i.toNat zI0], IntKind.i64.wrap (i + 1), ()) ∧ μ (a ++ [l.getD i.toNat zI0], IntKind.i64.wrap (i + 1), ()) < μ (a, i, ())) ∧
        (¬ (l.getD i.toNat zI0).2.1 < s.1 → ((l.getD i.toNat zI0).2.1 > s.2.1 → (a.length + [l.getD i.toNat zI0].length) * 48 ≤ 140737488355328 ∧ a.length + [l.getD i.toNat zI0].length ≤ 9223372036854775807 ∧ Z (a ++ [l.getD i.toNat zI0], IntKind.i64.wrap (i + 1), ()) ∧ μ (a ++ [l.getD i.toNat zI0], IntKind.i64.wrap (i + 1), ()) < μ (a, i, ())) ∧
          (¬ (l.getD i.toNat zI0).2.1 > s.2.1 → Z (a, IntKind.i64.wrap (i + 1), ()) ∧ μ (a, IntKind.i64.wrap (i + 1), ()) < μ (a, i, ())))) ∧ (¬ i < (l.length : Int) → K a) := fun l hl K hK => by
    refine ⟨FilterAt (besideP s) l, fun z => l.length - z.2.1.toNat, ⟨0, Nat.zero_le _, rfl, rfl⟩, ?_⟩
    rintro a i ⟨k, hk, hi, ha⟩
    simp only at hi ha
    subst hi
    refine ⟨fun h => ?_, fun h => by rw [ha, show k = l.length by omega, List.take_length]; exact hK⟩
    have hlt : k < l.length := by omega
    have la := filter_len hk ha
    have hw : IntKind.i64.wrap ((k : Int) + 1) = ((k + 1 : Nat) : Int) := wrap_succ (by omega)
    rw [toNat_cast, hw]
    simp only [toNat_cast, List.length_singleton]
    have dec : l.length - (k + 1) < l.length - k := by omega
    have b1 : (a.length + 1) * 48 ≤ 140737488355328 := by omega
    have b2 : a.length + 1 ≤ 9223372036854775807 := by omega
    refine ⟨⟨by omega, h⟩, fun g => ⟨b1, b2, filter_yes zI0 hlt ha ?_, dec⟩, fun g => ⟨fun g2 => ⟨b1, b2, filter_yes zI0 hlt ha ?_, dec⟩, fun g2 => ⟨filter_no zI0 hlt ha ?_, dec⟩⟩⟩
    · unfold besideP; rw [decide_eq_true g]; rfl
    · unfold besideP; rw [decide_eq_true g2, Bool.or_true]
    · unfold besideP; rw [decide_eq_false g, decide_eq_false g2]; rfl
  refine loop l hl _ (loop m hm _ ?_)
  exact same_loop zI0 (l.filter (besideP s)) (m.filter (besideP s)) (Nat.le_trans (List.length_filter_le _ _) (by omega))
def FlatAt {α β : Type} (f : α → List β) (l : List α) (z : List β × Int × Unit) : Prop := ∃ k : Nat, k ≤ l.length ∧ z.2.1 = (k : Int) ∧ z.1 = (l.take k).flatMap f ∧ z.1.length ≤ 2 * k
theorem flat_step {α β : Type} {f : α → List β} {l : List α} {a r : List β} (d : α) {k : Nat} (h : k < l.length) (ha : a = (l.take k).flatMap f) (hl : a.length ≤ 2 * k) (hr : f (l.getD k d) = r) (hn : r.length ≤ 2) : FlatAt f l (a ++ r, ((k + 1 : Nat) : Int), ()) :=
  ⟨k + 1, h, rfl, by rw [take_one d h, List.flatMap_append, ha, List.flatMap_cons, List.flatMap_nil, List.append_nil, hr], by rw [List.length_append]; omega⟩
def outS (o n x : Span) : List Span := if x.2.1 ≤ n.1 then [x] else if x.1 ≥ n.2.1 then [(w64 (x.1 - w64 (n.2.1 - o.2.1)), w64 (x.2.1 - w64 (n.2.1 - o.2.1)), ())] else []
theorem p31 : vc31 := by
  unfold vc31
  simp only [eq_self, true_and, and_true, decide_eq_true_eq, decide_eq_false_iff_not, Bool.not_eq_true', Bool.not_eq_false', beqS, beqS_f, ne_eq]
  rintro ⟨l, m, ⟨o, w, ⟨⟩⟩, ⟨⟩⟩
  simp only [maxLen_eq, d46]
  rintro ⟨hl, hm⟩
  have eb : outsideB l m o w = decide (l.filter (outA o) = m.flatMap (outS o w)) := rfl
  rw [eb]
  have nn : (0 : Int) ≤ 0 ∧ (0 : Int) < ((2 : Nat) : Int) := by decide
  have nn1 : (0 : Int) ≤ 1 ∧ (1 : Int) < ((2 : Nat) : Int) := by decide
  refine ⟨FilterAt (outA o) l, fun z => l.length - z.2.1.toNat, ⟨0, Nat.zero_le _, rfl, rfl⟩, ?_⟩
  rintro a i ⟨k, hk, hi, ha⟩
  simp only at hi ha
  subst hi
  refine ⟨fun h => ?_, fun h => ⟨nn1, nn, ?_⟩⟩
  · have hlt : k < l.length := by omega
    have la := filter_len hk ha
    have hw : IntKind.i64.wrap ((k : Int) + 1) = ((k + 1 : Nat) : Int) := wrap_succ (by omega)
    rw [toNat_cast, hw]
    simp only [toNat_cast, List.length_singleton]
    have dec : l.length - (k + 1) < l.length - k := by omega
    have b1 : (a.length + 1) * 16 ≤ 140737488355328 := by omega
    have b2 : a.length + 1 ≤ 9223372036854775807 := by omega
    refine ⟨⟨by omega, h⟩, nn, fun g => ⟨b1, b2, filter_yes zSp hlt ha ?_, dec⟩, fun g => ⟨nn, fun g2 => ⟨b1, b2, filter_yes zSp hlt ha ?_, dec⟩, fun g2 => ⟨filter_no zSp hlt ha ?_, dec⟩⟩⟩
    · unfold outA; rw [decide_eq_true g]; rfl
    · unfold outA; rw [decide_eq_true g2, Bool.or_true]
    · unfold outA; rw [decide_eq_false g, decide_eq_false g2]; rfl
  · have hx : a.length ≤ 1000000 := by have := filter_len hk ha; omega
    have ea : a = l.filter (outA o) := by rw [ha, show k = l.length by omega, List.take_length]
    rw [← ea]
    clear ha hk h ea
    refine ⟨FlatAt (outS o w) m, fun z => m.length - z.2.1.toNat, ⟨0, Nat.zero_le _, rfl, rfl, Nat.le_refl _⟩, ?_⟩
    rintro b i ⟨k, hk, hi, hb, lb⟩
    simp only at hi hb lb
    subst hi
    refine ⟨fun h => ?_, fun h => ?_⟩
    · have hlt : k < m.length := by omega
      have hw : IntKind.i64.wrap ((k : Int) + 1) = ((k + 1 : Nat) : Int) := wrap_succ (by omega)
      rw [toNat_cast, hw]
      simp only [toNat_cast, List.length_singleton]
      have dec : m.length - (k + 1) < m.length - k := by omega
      have b1 : (b.length + 1) * 16 ≤ 140737488355328 := by omega
      have b2 : b.length + 1 ≤ 9223372036854775807 := by omega
      have no : outS o w (m.getD k zSp) = [] → FlatAt (outS o w) m (b, ((k + 1 : Nat) : Int), ()) := fun e => by
        have := flat_step zSp hlt hb lb e (by simp)
        rw [List.append_nil] at this
        exact this
      refine ⟨⟨by omega, h⟩, nn1, fun g => ⟨b1, b2, flat_step zSp hlt hb lb ?_ (by simp), dec⟩, fun g => ⟨nn1, fun g2 => ⟨b1, b2, flat_step zSp hlt hb lb ?_ (by simp), dec⟩, fun g2 => ⟨no ?_, dec⟩⟩⟩
      · unfold outS; rw [if_pos g]
      · unfold outS; rw [if_neg g, if_pos g2]; rfl
      · unfold outS; rw [if_neg g, if_neg g2]
    · have eb : b = m.flatMap (outS o w) := by rw [hb, show k = m.length by omega, List.take_length]
      rw [← eb]
      exact same_loop zSp a b hx
def RowCAt (t f0 : Int) (l : List Span) (z : Int × List Itm × Int × Unit) : Prop := ∃ k : Nat, k ≤ l.length ∧ z.2.2.1 = (k : Int) ∧ rowC t f0 l = z.2.1 ++ rowC t z.1 (l.drop k) ∧ z.2.1.length ≤ 2 * k
theorem p38 : vc38 := by
  unfold vc38
  simp only [eq_self, true_and, and_true, decide_eq_true_eq, decide_eq_false_iff_not]
  rintro ⟨f0, t, l, ⟨⟩⟩
  simp only [maxLen_eq, d46]
  intro hl
  refine ⟨RowCAt t f0 l, fun z => l.length - z.2.2.1.toNat, ⟨0, Nat.zero_le _, rfl, rfl, Nat.le_refl _⟩, ?_⟩
  rintro f out i ⟨k, hk, hi, hr, hlen⟩
  simp only at hi hr hlen
  subst hi
  refine ⟨fun h => ?_, fun h => ?_⟩
  · have hlt : k < l.length := by omega
    have hw : IntKind.i64.wrap ((k : Int) + 1) = ((k + 1 : Nat) : Int) := wrap_succ (by omega)
    rw [toNat_cast, hw]
    simp only [toNat_cast, List.length_singleton, List.length_append]
    rw [drop_cons zSp hlt] at hr
    generalize l.getD k zSp = x at hr ⊢
    have e : rowC t f (x :: l.drop (k + 1)) = if x.1 > f then plainC (w64 (x.1 - f)) :: foldC (w64 (x.2.1 - x.1)) :: rowC t x.2.1 (l.drop (k + 1)) else foldC (w64 (x.2.1 - x.1)) :: rowC t x.2.1 (l.drop (k + 1)) := rfl
    rw [e] at hr
    have y : x.1 > f → RowCAt t f0 l (x.2.1, out ++ [plainC (IntKind.i64.wrap (x.1 - f))] ++ [foldC (IntKind.i64.wrap (x.2.1 - x.1))], ((k + 1 : Nat) : Int), ()) := fun g => ⟨k + 1, hlt, rfl, by
      rw [if_pos g] at hr
      rw [hr, List.append_assoc, List.append_assoc]
      rfl, by simp; omega⟩
    have n : ¬ x.1 > f → RowCAt t f0 l (x.2.1, out ++ [foldC (IntKind.i64.wrap (x.2.1 - x.1))], ((k + 1 : Nat) : Int), ()) := fun g => ⟨k + 1, hlt, rfl, by
      rw [if_neg g] at hr
      rw [hr, List.append_assoc]
      rfl, by simp; omega⟩
    have dec : l.length - (k + 1) < l.length - k := by omega
    (repeat' (first | apply And.intro | intro _))
    all_goals first
      | omega
      | exact y (by assumption)
      | exact n (by assumption)
      | exact dec
      | rfl
  · have hke : k = l.length := by omega
    have e : rowC t f [] = if t > f then [plainC (w64 (t - f))] else [] := rfl
    rw [hke, List.drop_length, e] at hr
    simp only [List.length_singleton]
    have y : t > f → out ++ [plainC (IntKind.i64.wrap (t - f))] = rowC t f0 l := fun g => by
      rw [if_pos g] at hr
      exact hr.symm
    have n : ¬ t > f → out = rowC t f0 l := fun g => by
      rw [if_neg g, List.append_nil] at hr
      exact hr.symm
    (repeat' (first | apply And.intro | intro _))
    all_goals first
      | omega
      | exact y (by assumption)
      | exact n (by assumption)
end Go.Fr.Z16
namespace Go.Fr.Z16
open Go Go.Fr Go.Proofs
theorem rightL_iff {n : Int} : (f : Int) → (l : List Span) → f ≤ n → (rightL n f l = true ↔ Spans f n l)
  | f, [], h => ⟨fun _ => h, fun _ => rfl⟩
  | f, x :: r, h => by
    have e : rightL n f (x :: r) = if x.1 < f ∨ x.2.1 ≤ x.1 ∨ x.2.1 > n then false else rightL n x.2.1 r := rfl
    rw [e]
    by_cases hc : x.1 < f ∨ x.2.1 ≤ x.1 ∨ x.2.1 > n
    · rw [if_pos hc]
      refine ⟨fun h => (by cases h), fun ⟨h1, h2, h3⟩ => ?_⟩
      have := spans_le h3
      omega
    · rw [if_neg hc, rightL_iff x.2.1 r (by omega)]
      exact ⟨fun h => ⟨by omega, by omega, h⟩, fun h => h.2.2⟩
def wovenS (L : List Inl) (l : List Span) : List Span := l.map fun x => (x.1 + lensA x.1 1 L, x.2.1 + lensA x.2.1 0 L, ())
theorem woven_spans {n : Int} {L : List Inl} : (f : Int) → (l : List Span) → Spans f n l → Spans (f + lensA f 0 L) (n + lens L) (wovenS L l)
  | f, [], h => by
    have h : f ≤ n := h
    have := lensA_le f 0 L
    show f + lensA f 0 L ≤ n + lens L
    omega
  | f, x :: r, h => by
    obtain ⟨h1, h2, h3⟩ := h
    have a := lensA_mono (a := f) (b := 0) (c := x.1) (d := 1) (l := L) (fun y _ h => by
      rcases h with h | h
      · unfold isAhead; omega
      · omega)
    have b := lensA_mono (a := x.1) (b := 1) (c := x.2.1) (d := 0) (l := L) (fun y _ h => by
      unfold isAhead at h ⊢
      omega)
    refine ⟨?_, ?_, woven_spans x.2.1 r h3⟩
    · show f + lensA f 0 L ≤ x.1 + lensA x.1 1 L; omega
    · show x.1 + lensA x.1 1 L < x.2.1 + lensA x.2.1 0 L; omega
def WOk (n : Int) (L : List Inl) : Prop := 0 ≤ n ∧ n ≤ 1000 ∧ L.length ≤ 60 ∧ Inls 0 n L
theorem wok_lens {n : Int} {L : List Inl} (h : WOk n L) : 0 ≤ lens L ∧ lens L ≤ 60000 := by
  obtain ⟨h0, h1, h2, h3⟩ := h
  have := (weave_ok h0 (by omega) h2 h3).2.2.2.2.2.2.2
  exact this
theorem wok_zero {n : Int} {L : List Inl} (h : WOk n L) : lensA 0 0 L = 0 := lensA_none fun x hx ha => by
  have := (h.2.2.2.1 x hx).1
  unfold isAhead at ha
  omega
theorem wok_spans {n : Int} {L : List Inl} (h : WOk n L) {l : List Span} (hl : Spans 0 n l) : Spans 0 (n + lens L) (wovenS L l) := by
  have := woven_spans (L := L) 0 l hl
  rw [wok_zero h] at this
  exact this
theorem sizes_w {n : Int} {L : List Inl} (h : WOk n L) : nW (weaveI (some (n, L, ()))) = n ∧ mW (weaveI (some (n, L, ()))) = n + lens L ∧ WfN (topT (treeOf (weaveI (some (n, L, ()))))) := by
  obtain ⟨h0, h1, h2, h3⟩ := h
  obtain ⟨w1, w2, w3, w4, w5, w6, w7, w8, w9⟩ := weave_ok h0 (by omega) h2 h3
  have so := sum_top w2 (by rw [w3]; exact rowly_fine w5) (by rw [w3]; omega)
  unfold SumOk at so
  rw [w3, w6, w7] at so
  rw [w1]
  exact ⟨so.2.1, so.2.2, w2⟩
theorem places_w {n : Int} {L : List Inl} (h : WOk n L) {l : List Span} (hl : Spans 0 n l) : placesC (weaveI (some (n, L, ()))) l = wovenS L l ∧ refPlaces (n, L, 0, ()) l = wovenS L l := by
  obtain ⟨h0, h1, h2, h3⟩ := h
  refine ⟨List.map_congr_left fun x hx => ?_, List.map_congr_left fun x hx => ?_⟩
  · have := spans_all hl x hx
    rw [out_ok h0 (by omega) h2 h3, out_ok h0 (by omega) h2 h3, if_neg (by omega), if_neg (by omega)]
  · have := spans_all hl x hx
    rw [refOut_ok h2 h3 (by omega) (by omega) (by omega), refOut_ok h2 h3 (by omega) (by omega) (by omega)]
theorem spots_w {n : Int} {L : List Inl} (h : WOk n L) : ((spots (n, L, 0, ())).length : Int) = n + lens L := by
  obtain ⟨h0, h1, h2, h3⟩ := h
  obtain ⟨w1, w2, w3, w4, w5, w6, w7, w8, w9⟩ := weave_ok h0 (by omega) h2 h3
  rw [spots_ok h0 h3, expand_len 0 w5, w7]
def CrOf (m : Int) (pl : List Span) (c : Wve) : Prop := c ≠ none ∧ WfN (topT (treeOf c)) ∧ items (topT (treeOf c)) = rowK m 0 pl
theorem newC_ok {n : Int} {L : List Inl} (h : WOk n L) {l : List Span} (hl : Spans 0 n l) (hn : l.length ≤ 1000) :
    newC (weaveI (some (n, L, ()))) l = (some (some (buildT (rowK (n + lens L) 0 (wovenS L l)), ()), ()), 0, ()) ∧ CrOf (n + lens L) (wovenS L l) (some (some (buildT (rowK (n + lens L) 0 (wovenS L l)), ()), ())) := by
  obtain ⟨s1, s2, s3⟩ := sizes_w h
  obtain ⟨p1, p2⟩ := places_w h hl
  have sp := wok_spans h hl
  have lb := wok_lens h
  obtain ⟨h0, h1, h2, h3⟩ := h
  have len := rowK_len (t := n + lens L) 0 (wovenS L l)
  have ll : (wovenS L l).length = l.length := List.length_map _
  have ht : n + lens L ≤ 1099511627776 := by omega
  have e := rowC_eq ht 0 _ (Int.le_refl _) sp
  have nt := newT_ok (l := rowK (n + lens L) 0 (wovenS L l)) (by omega) (rowK_check ht (Int.le_refl _) sp)
  obtain ⟨b1, b2⟩ := buildT_ok (l := rowK (n + lens L) 0 (wovenS L l)) (by omega)
  refine ⟨?_, by simp, b1, b2⟩
  unfold newC
  rw [s1, s2, p1, e, nt, (rightL_iff 0 l h0).2 hl, if_neg (by decide), if_neg (by simp)]
theorem newC_bad {n : Int} {L : List Inl} (h : WOk n L) {l : List Span} (hl : ¬ Spans 0 n l) : newC (weaveI (some (n, L, ()))) l = (none, 1, ()) := by
  obtain ⟨s1, s2, s3⟩ := sizes_w h
  unfold newC
  rw [s1, if_pos]
  have := mt (rightL_iff 0 l h.1).1 hl
  simpa using this
theorem cr_fine {m : Int} {pl : List Span} {c : Wve} (h : CrOf m pl c) (hm : m ≤ 1000000) (sp : Spans 0 m pl) (hn : pl.length ≤ 1000) :
    CRow (rowK m 0 pl) ∧ Fine (items (topT (treeOf c))) ∧ (items (topT (treeOf c))).length ≤ 2001 ∧ nW c = m ∧ mW c = sum1 (rowK m 0 pl) ∧ (sum1 (rowK m 0 pl) = ((starts m pl).length : Int)) ∧ 0 ≤ m ∧ 0 ≤ sum1 (rowK m 0 pl) ∧ sum1 (rowK m 0 pl) ≤ m := by
  obtain ⟨h1, h2, h3⟩ := h
  have cr := rowK_crow (by omega : m ≤ 1099511627776) 0 pl (Int.le_refl _) sp
  have len := rowK_len (t := m) 0 pl
  have ff := crow_fine cr
  have so := sum_top h2 (by rw [h3]; exact ff) (by rw [h3]; omega)
  unfold SumOk at so
  have s0 := rowK_sum0 0 pl sp
  rw [h3, s0] at so
  have el : ((starts m pl).length : Int) = sum1 (rowK m 0 pl) := by
    rw [starts_eq sp]
    exact expC_len 0 cr
  have le : (starts m pl).length ≤ m.toNat := by
    unfold starts
    refine Nat.le_trans (List.length_filter_le _ _) ?_
    simp
  have m0 := spans_le sp
  rw [h3]
  refine ⟨cr, ff, by omega, ?_, so.2.2, el.symm, m0, by omega, by omega⟩
  have := so.2.1
  show (sumOf (topT (treeOf c))).2.1.1 = m
  omega
theorem find_cr {m : Int} {pl : List Span} {c : Wve} (h : CrOf m pl c) (hm : m ≤ 1000000) (sp : Spans 0 m pl) (hn : pl.length ≤ 1000) {dim : Int} (hd : dim = 0 ∨ dim = 1) (a bias : Int) :
    findT (treeOf c) dim a bias = if a < 0 ∨ a > (if dim = 0 then m else sum1 (rowK m 0 pl)) ∨ (bias ≠ 0 ∧ bias ≠ 1) then ((0, zS, 0, ()), 1, ()) else (findP (topT (treeOf c)) dim a bias, 0, ()) := by
  obtain ⟨f1, f2, f3, f4, f5, f6, f7, f8, f9⟩ := cr_fine h hm sp hn
  unfold findT
  have e : sizeD (sumOf (topT (treeOf c))) dim = if dim = 0 then m else sum1 (rowK m 0 pl) := by
    rcases hd with rfl | rfl
    · exact f4
    · exact f5
  rw [e]
  have e2 : (dim < 0 ∨ dim > 3 ∨ a < 0 ∨ a > (if dim = 0 then m else sum1 (rowK m 0 pl)) ∨ (bias ≠ 0 ∧ bias ≠ 1)) = (a < 0 ∨ a > (if dim = 0 then m else sum1 (rowK m 0 pl)) ∨ (bias ≠ 0 ∧ bias ≠ 1)) := by
    rw [eq_iff_iff]
    exact ⟨fun h => by rcases h with h | h | h <;> first | omega | exact h, fun h => .inr (.inr h)⟩
  simp only [e2]
theorem outCr_ok {m : Int} {pl : List Span} {c : Wve} (h : CrOf m pl c) (hm : m ≤ 1000000) (sp : Spans 0 m pl) (hn : pl.length ≤ 1000) (a : Int) :
    outCr c a = if a < 0 ∨ a > m then (0, 1, ()) else (outC a (rowK m 0 pl) 0 0, 0, ()) := by
  obtain ⟨f1, f2, f3, f4, f5, f6, f7, f8, f9⟩ := cr_fine h hm sp hn
  have ff := find_cr h hm sp hn (.inl rfl) a 1
  rw [if_pos rfl] at ff
  unfold outCr
  by_cases hc : a < 0 ∨ a > m
  · rw [if_pos (by omega)] at ff
    rw [if_pos hc, ff, if_pos (by decide)]
  · rw [if_neg (by omega)] at ff
    rw [if_neg hc, ff, if_neg (by simp)]
    obtain ⟨q1, q2, q3⟩ := findP_is (dim := 0) (v := a) (bias := 1) (.inl rfl) h.2.1 f2 (by omega)
    rw [h.2.2] at q1 q2 q3 f2 f3
    have bd := findC_bd (dim := 0) (v := a) (bias := 1) (rowK m 0 pl) 0 0 0 f2
    rw [rowK_sum0 0 pl sp] at bd
    obtain ⟨j, j1, j2, j3⟩ := outC_find (a := a) (rowK m 0 pl) 0 0 0
    have ea : (atT (treeOf c) (findC 0 a 1 (rowK m 0 pl) 0 0 0).1).1 = (rowK m 0 pl).getD j zItm := by
      unfold atT
      rw [h.2.2, j1]
      by_cases hj : j < (rowK m 0 pl).length
      · rw [if_neg (by omega), show (0 + (j : Int)).toNat = j by omega]
      · rw [if_pos (by omega), List.getD_eq_getElem?_getD, List.getElem?_eq_none (by omega)]
        rfl
    show (if (atT (treeOf c) (findP (topT (treeOf c)) 0 a 1).1).1.1 = 1 then ((findP (topT (treeOf c)) 0 a 1).2.1.2.1.2.1, (0 : Int), ()) else (w64 (w64 ((findP (topT (treeOf c)) 0 a 1).2.1.2.1.2.1 + a) - (findP (topT (treeOf c)) 0 a 1).2.1.2.1.1), (0 : Int), ())) = _
    rw [q1, q2, q3, ea, j3]
    generalize findC 0 a 1 (rowK m 0 pl) 0 0 0 = f at bd
    split
    · rfl
    · rw [w64_id (n := f.2.2 + a) (by omega) (by omega), w64_id (by omega) (by omega)]
      congr 1
      omega
theorem inCr_ok {m : Int} {pl : List Span} {c : Wve} (h : CrOf m pl c) (hm : m ≤ 1000000) (sp : Spans 0 m pl) (hn : pl.length ≤ 1000) (a : Int) :
    inCr c a = if a < 0 ∨ a > ((starts m pl).length : Int) then (0, 1, ()) else (inC a (rowK m 0 pl) 0 0, 0, ()) := by
  obtain ⟨f1, f2, f3, f4, f5, f6, f7, f8, f9⟩ := cr_fine h hm sp hn
  have ff := find_cr h hm sp hn (.inr rfl) a 1
  rw [if_neg (show ¬ (1 : Int) = 0 by decide), f6] at ff
  unfold inCr
  by_cases hc : a < 0 ∨ a > ((starts m pl).length : Int)
  · rw [if_pos (by omega)] at ff
    rw [if_pos hc, ff, if_pos (by decide)]
  · rw [if_neg (by omega)] at ff
    rw [if_neg hc, ff, if_neg (by simp)]
    obtain ⟨q1, q2, q3⟩ := findP_is (dim := 1) (v := a) (bias := 1) (.inr rfl) h.2.1 f2 (by omega)
    rw [h.2.2] at q1 q2 q3 f2 f3
    have bd := findC_bd (dim := 1) (v := a) (bias := 1) (rowK m 0 pl) 0 0 0 f2
    rw [rowK_sum0 0 pl sp] at bd
    have j3 := inC_find (a := a) (rowK m 0 pl) 0 0 0
    show (w64 (w64 ((findP (topT (treeOf c)) 1 a 1).2.1.2.1.1 + a) - (findP (topT (treeOf c)) 1 a 1).2.1.2.1.2.1), (0 : Int), ()) = _
    rw [q2, q3, j3]
    generalize findC 1 a 1 (rowK m 0 pl) 0 0 0 = f at bd
    rw [w64_id (n := f.2.1 + a) (by omega) (by omega), w64_id (by omega) (by omega)]
    congr 1
    omega
theorem pieces_ok {m : Int} {pl : List Span} {c : Wve} (h : CrOf m pl c) (hm : m ≤ 1000000) (sp : Spans 0 m pl) : piecesC (treeOf c) = refPiecesC m pl := by
  rw [refPieces_eq (by omega) sp]
  unfold piecesC
  rw [h.2.2]
  rfl
theorem isC_ok {n : Int} {L L0 : List Inl} {l : List Span} {u : Unit} {c : Wve} (h : WOk n L) (hl : Spans 0 n l) (hn : l.length ≤ 1000) (hw : newW n L0 = (n, L, 0, ())) (hc : CrOf (n + lens L) (wovenS L l) c) : isC c (n, L0, l, u) = true := by
  have lb := wok_lens h
  have sp := wok_spans h hl
  have hm : n + lens L ≤ 1000000 := by have := h.2.1; omega
  have ll : (wovenS L l).length = l.length := List.length_map _
  obtain ⟨f1, f2, f3, f4, f5, f6, f7, f8, f9⟩ := cr_fine hc hm sp (by omega)
  have ez : sizeT (n, L0, l, u) = n + lens L := by
    show ((spots (newW n L0)).length : Int) = _
    rw [hw]
    exact spots_w h
  have ep : placesT (n, L0, l, u) = wovenS L l := by
    show refPlaces (newW n L0) l = _
    rw [hw]
    exact (places_w h hl).2
  unfold isC
  rw [ez, ep, pieces_ok hc hm sp, f4, f5, f6, high_wf hc.2.1, decide_eq_true rfl, decide_eq_true rfl, decide_eq_true rfl]
  cases c with
  | none => exact absurd rfl hc.1
  | some c => rfl
end Go.Fr.Z16
namespace Go.Fr.Z16
open Go Go.Fr Go.Proofs
theorem d105 : Ty.dflt t105 = ((0, 0, ()) : Pce) := rfl
theorem d106 : Ty.dflt t106 = ((0, 0, ()) : Pce) := rfl
def within1 (s x : Span) : Bool := acrossS x s.1 || acrossS x s.2.1
def within2 (s x : Span) : Bool := decide (x.1 ≥ s.1) && decide (x.2.1 ≤ s.2.1)
def withG (s : Span) (out r : List Span) : List Span × Bool × Unit := if r.any (within1 s) = true then ([], false, ()) else (out ++ r.filter (within2 s), true, ())
theorem p57 : vc57 := by
  unfold vc57
  simp only [eq_self, true_and, and_true, decide_eq_true_eq, decide_eq_false_iff_not]
  rintro ⟨l, s, ⟨⟩⟩
  simp only [maxLen_eq, d46]
  intro hl
  have ew : withinC l s = withG s [] l := rfl
  rw [ew]
  refine ⟨fun z => ∃ k : Nat, k ≤ l.length ∧ z.2.1 = (k : Int) ∧ withG s [] l = withG s z.1 (l.drop k) ∧ z.1.length ≤ k, fun z => l.length - z.2.1.toNat, ⟨0, Nat.zero_le _, rfl, rfl, Nat.le_refl _⟩, ?_⟩
  rintro a i ⟨k, hk, hi, hr, la⟩
  simp only at hi hr la
  subst hi
  refine ⟨fun h => ?_, fun h => ?_⟩
  · have hlt : k < l.length := by omega
    have hw : IntKind.i64.wrap ((k : Int) + 1) = ((k + 1 : Nat) : Int) := wrap_succ (by omega)
    rw [toNat_cast, hw]
    simp only [toNat_cast, List.length_singleton]
    rw [drop_cons zSp hlt] at hr
    generalize l.getD k zSp = x at hr ⊢
    have dec : l.length - (k + 1) < l.length - k := by omega
    have b1 : (a.length + 1) * 16 ≤ 140737488355328 := by omega
    have b2 : a.length + 1 ≤ 9223372036854775807 := by omega
    have bad : within1 s x = true → ([], false, ()) = withG s [] l := fun g => by
      rw [hr]
      unfold withG
      rw [if_pos (by rw [List.any_cons, g, Bool.true_or])]
    have good : within1 s x = false → withG s [] l = if within2 s x = true then withG s (a ++ [x]) (l.drop (k + 1)) else withG s a (l.drop (k + 1)) := fun g => by
      rw [hr]
      unfold withG
      rw [List.any_cons, g, Bool.false_or]
      by_cases h2 : within2 s x = true
      · rw [if_pos h2, List.filter_cons_of_pos h2, List.append_assoc]; rfl
      · rw [if_neg h2, List.filter_cons_of_neg h2]
    refine ⟨⟨by omega, h⟩, fun g => bad (by unfold within1; rw [g]; rfl), fun g => ⟨fun g2 => bad (by unfold within1; rw [g2, Bool.or_true]), fun g2 => ?_⟩⟩
    have gd := good (by unfold within1; rw [g, g2]; rfl)
    refine ⟨fun g3 => ⟨fun g4 => ⟨b1, b2, ⟨k + 1, hlt, rfl, ?_, by simp; omega⟩, dec⟩, fun g4 => ⟨⟨k + 1, hlt, rfl, ?_, by show a.length ≤ _; omega⟩, dec⟩⟩, fun g3 => ⟨⟨k + 1, hlt, rfl, ?_, by show a.length ≤ _; omega⟩, dec⟩⟩
    · rw [gd, if_pos (by unfold within2; rw [decide_eq_true g3, decide_eq_true g4]; rfl)]
    · rw [gd, if_neg (by unfold within2; rw [decide_eq_false g4, Bool.and_false]; decide)]
    · rw [gd, if_neg (by unfold within2; rw [decide_eq_false g3, Bool.false_and]; decide)]
  · rw [hr, show k = l.length by omega, List.drop_length]
    show _ = (a ++ [], true, ())
    rw [List.append_nil]
theorem pce_len (l : List Span) (out : List Pce) (a : Int) : (pceC l out a).length ≤ out.length + 1 := by
  unfold pceC
  split
  · simp
  · split
    · rw [List.length_set]; omega
    · simp
theorem p48 : vc48 := by
  unfold vc48
  simp only [eq_self, true_and, and_true, decide_eq_true_eq, decide_eq_false_iff_not, beq_iff_eq, beq_eq_false_iff_ne, ne_eq]
  rintro ⟨n, l, ⟨⟩⟩
  simp only [maxLen_eq, d46, d106, dI3]
  rintro ⟨hn, hl⟩
  refine ⟨⟨hn, hl⟩, ?_⟩
  have er : refPiecesC n l = (starts n l).foldl (pceC l) [] := rfl
  have sb := starts_bd n l
  rw [er]
  generalize starts n l = S at sb ⊢
  refine ⟨fun z => ∃ k : Nat, k ≤ S.length ∧ z.2.1 = (k : Int) ∧ z.1 = (S.take k).foldl (pceC l) [] ∧ z.1.length ≤ k, fun z => S.length - z.2.1.toNat, ⟨0, Nat.zero_le _, rfl, rfl, Nat.le_refl _⟩, ?_⟩
  rintro a i ⟨k, hk, hi, ha, la⟩
  simp only at hi ha la
  subst hi
  refine ⟨fun h => ?_, fun h => by rw [ha, show k = S.length by omega, List.take_length]⟩
  have hlt : k < S.length := by omega
  have hw : IntKind.i64.wrap ((k : Int) + 1) = ((k + 1 : Nat) : Int) := wrap_succ (by omega)
  have hwa : IntKind.i64.wrap ((a.length : Int) - 1) = (a.length : Int) - 1 := wrap_id (by omega) (by omega)
  rw [toNat_cast, hw, hwa]
  simp only [toNat_cast, List.length_singleton]
  have st : (S.take (k + 1)).foldl (pceC l) [] = pceC l a (S.getD k 0) := by
    rw [take_one 0 hlt, List.foldl_append, ← ha]
    rfl
  have pl := pce_len l a (S.getD k 0)
  have hi := hid_in l (S.getD k 0)
  generalize S.getD k 0 = p at st pl hi ⊢
  have dec : S.length - (k + 1) < S.length - k := by omega
  have b1 : (a.length + 1) * 16 ≤ 140737488355328 := by omega
  have b2 : a.length + 1 ≤ 9223372036854775807 := by omega
  have Zf : ∀ b, b = pceC l a p → ∃ k' : Nat, k' ≤ S.length ∧ ((k + 1 : Nat) : Int) = (k' : Int) ∧ b = (S.take k').foldl (pceC l) [] ∧ b.length ≤ k' := fun b hb => ⟨k + 1, hlt, rfl, by rw [st, hb], by rw [hb]; omega⟩
  have y : hidesI l p ≥ 0 → pceC l a p = a ++ [(w64 ((l.getD (hidesI l p).toNat zSp).2.1 - (l.getD (hidesI l p).toNat zSp).1), 1, ())] := fun g => by
    unfold pceC
    rw [if_pos g]
  have n1 : ¬ hidesI l p ≥ 0 → (a.length : Int) - 1 ≥ 0 → (a.getD ((a.length : Int) - 1).toNat (0, 0, ())).1 = 0 → pceC l a p = a.set ((a.length : Int) - 1).toNat ((a.getD ((a.length : Int) - 1).toNat (0, 0, ())).1, w64 ((a.getD ((a.length : Int) - 1).toNat (0, 0, ())).2.1 + 1), ()) := fun g g2 g3 => by
    have e : ((a.length : Int) - 1).toNat = a.length - 1 := by omega
    rw [e] at g3 ⊢
    unfold pceC
    rw [if_neg g, if_pos ⟨fun e => by rw [e] at g2; simp at g2, g3⟩]
  have n2 : ¬ hidesI l p ≥ 0 → ((a.length : Int) - 1 ≥ 0 → ¬ (a.getD ((a.length : Int) - 1).toNat (0, 0, ())).1 = 0) → pceC l a p = a ++ [(0, 1, ())] := fun g g2 => by
    have e : ((a.length : Int) - 1).toNat = a.length - 1 := by omega
    rw [e] at g2
    unfold pceC
    rw [if_neg g, if_neg]
    rintro ⟨h1, h2⟩
    have : a.length ≠ 0 := fun e => h1 (List.eq_nil_of_length_eq_zero e)
    exact g2 (by omega) h2
  refine ⟨⟨by omega, h⟩, hl, fun g => ?_, fun g => ⟨fun g2 => ⟨by omega, fun g3 => ⟨by omega, by omega, Zf _ (n1 g g2 g3).symm, dec⟩, fun g3 => ⟨b1, b2, Zf _ (n2 g (fun _ => g3)).symm, dec⟩⟩, fun g2 => ⟨b1, b2, Zf _ (n2 g (fun h => absurd h g2)).symm, dec⟩⟩⟩
  have f1 := Zf _ (y g).symm
  have f2 : 0 ≤ hidesI l p := g
  have f3 := hi g
  have f4 : IntKind.i64.wrap ((l.getD (hidesI l p).toNat zSp).2.1 - (l.getD (hidesI l p).toNat zSp).1) = w64 ((l.getD (hidesI l p).toNat zSp).2.1 - (l.getD (hidesI l p).toNat zSp).1) := rfl
  rw [f4]
  simp only [f1, f2, f3, dec, b1, b2, and_self, and_true, true_and]
end Go.Fr.Z16
namespace Go.Fr.Z16
open Go Go.Fr Go.Proofs
theorem p58 : vc58 := by
  unfold vc58
  simp only [true_and, and_true, beq_iff_eq, beq_eq_false_iff_ne, ne_eq]
  rintro ⟨c, old, now, ⟨⟩⟩ hw
  have hw : okTre (treeOf c) := hw
  have hw1 : WfN (topT (treeOf c)) := hw.1
  have nn : (0 : Int) ≤ 0 ∧ (0 : Int) < ((3 : Nat) : Int) := by decide
  have ed : edgesC c old now = edgesC c old now := rfl
  conv at ed => rhs; unfold edgesC edBad1 edBad2 edTo edLast edFrom edFirst spanI maxI edJ edI edB edA
  simp only at ed ⊢
  rw [ed]
  clear ed
  generalize (findT (treeOf c) 0 old.1 0).1 = A
  generalize (findT (treeOf c) 0 old.2.1 1).1 = B
  simp only [hw, hw1, nn, and_self, true_and]
  generalize atT (treeOf c) A.1 = I
  generalize atT (treeOf c) B.1 = J
  have wj : IntKind.i64.wrap = w64 := rfl
  rw [wj]
  generalize acrossS (A.2.1.2.1.1, w64 (A.2.1.2.1.1 + I.1.2.2.1.1), ()) old.1 = P
  generalize acrossS (B.2.1.2.1.1, w64 (B.2.1.2.1.1 + J.1.2.2.1.1), ()) old.2.1 = Q
  by_cases i1 : I.2.1 = 0 <;> by_cases i2 : I.1.1 = 0 <;> by_cases j1 : J.2.1 = 0 <;> by_cases j2 : J.1.1 = 0 <;> by_cases k1 : w64 (A.2.1.2.1.1 + I.1.2.2.1.1) = old.1 <;> cases P <;> cases Q <;> simp [i1, i2, j1, j2, k1]
theorem p27 : vc27 := by
  unfold vc27
  simp only [true_and, and_true, bne_iff_ne, bne_eq_false_iff_eq, ne_eq, Bool.not_eq_true', Bool.not_eq_false']
  rintro ⟨c, old, now, w, l, ⟨⟩⟩
  simp only
  rintro ⟨h1, h2, h3⟩
  have pl : (placesC w l).length = l.length := List.length_map _
  have wl : (withinC (placesC w l) now).1.length ≤ 10000 := by
    unfold withinC
    split
    · exact Nat.zero_le _
    · refine Nat.le_trans (List.length_filter_le _ _) (by omega)
  have rl := rowC_len (edgesC c old now).2.2.1.2.1 (edgesC c old now).2.2.1.1 (withinC (placesC w l) now).1
  have b1 : l.length ≤ maxLen := by rw [maxLen_eq]; omega
  have b2 : l.length ≤ 100000 := by omega
  have b3 : (placesC w l).length ≤ 100000 := by omega
  have b4 : (rowC (edgesC c old now).2.2.1.2.1 (edgesC c old now).2.2.1.1 (withinC (placesC w l) now).1).length ≤ 100000 := by omega
  have bad : (rightL (nW w) 0 l && (fitsW old (nW c) && (fitsW now (mW w) && (decide (old.1 = now.1) && decide (w64 (nW c - old.2.1) = w64 (mW w - now.2.1)))))) = false → (none, 1, ()) = updC c old now w l := fun h => by
    unfold updC
    rw [if_pos h]
  refine ⟨b1, fun g => bad (by rw [g]; rfl), fun g1 => ⟨fun g => bad (by rw [g1, g]; rfl), fun g2 => ⟨fun g => bad (by rw [g1, g2]; rw [show fitsW now (mW w) = false from g]; rfl), fun g3 => ⟨fun g => bad (by rw [decide_eq_false g]; simp), fun g4 => ⟨fun g => bad (by
    have g : ¬ w64 (nW c - old.2.1) = w64 (mW w - now.2.1) := g
    rw [decide_eq_false g]; simp), fun g5 => ⟨⟨h2, b2⟩, b3, h1, ?_⟩⟩⟩⟩⟩⟩
  have ok : (rightL (nW w) 0 l && (fitsW old (nW c) && (fitsW now (mW w) && (decide (old.1 = now.1) && decide (w64 (nW c - old.2.1) = w64 (mW w - now.2.1)))))) = true := by
    have g5 : w64 (nW c - old.2.1) = w64 (mW w - now.2.1) := g5
    rw [g1, g2, show fitsW now (mW w) = true from g3, decide_eq_true g4, decide_eq_true g5]
    rfl
  have e : updC c old now w l = if ((withinC (placesC w l) now).2.1 && (edgesC c old now).2.2.2.1) = false then (none, 1, ())
      else if (updCR c old now w l).2.1 ≠ 0 then (none, (updCR c old now w l).2.1, ()) else (some ((updCR c old now w l).1, ()), 0, ()) := by
    unfold updC
    rw [ok, if_neg (by decide)]
  rw [e]
  refine ⟨fun g => by rw [g, Bool.false_and, if_pos rfl], fun g6 => ⟨fun g => by rw [g, Bool.and_false, if_pos rfl], fun g7 => ⟨wl, ⟨h1, b4⟩, fun g => ?_, fun g => ?_⟩⟩⟩
  · rw [g6, g7, if_neg (by decide)]
    have g : (updCR c old now w l).2.1 ≠ 0 := g
    rw [if_pos g]
    rfl
  · rw [g6, g7, if_neg (by decide)]
    have g : (updCR c old now w l).2.1 = 0 := g
    rw [if_neg (by rw [g]; decide)]
    rfl
theorem p8 : vc8 := by
  unfold vc8
  simp only [eq_self, true_and, and_true, decide_eq_true_eq, decide_eq_false_iff_not]
  rintro ⟨⟨n, l, hid, ⟨⟩⟩, ⟨⟩⟩
  simp only [maxLen_eq, dInl]
  rintro ⟨hl, hh⟩
  have yes : (n < 0 ∨ n > 200 ∨ (l.length : Int) > 60 ∨ (hid.length : Int) > 100 ∨ ∃ x ∈ l, ((txt x).size : Int) > 200) → true = longC (n, l, hid, ()) := fun h => by
    unfold longC
    rcases h with h | h | h | h | ⟨x, h1, h2⟩
    · simp [h]
    · simp [h]
    · simp [h]
    · simp [h]
    · show true = (_ || _ || _ || _ || (l.any fun x => decide (((txt x).size : Int) > 200)) || _)
      rw [List.any_eq_true.2 ⟨x, h1, decide_eq_true h2⟩, Bool.or_true, Bool.true_or]
  refine ⟨fun h => yes (.inl h), fun g0 => ⟨fun h => yes (.inr (.inl h)), fun g1 => ⟨fun h => yes (.inr (.inr (.inl h))), fun g2 => ⟨fun h => yes (.inr (.inr (.inr (.inl h)))), fun g3 => ?_⟩⟩⟩⟩
  refine ⟨fun z => ∃ k : Nat, k ≤ l.length ∧ z.1 = (k : Int) ∧ ∀ j, j < k → ¬ (((txt (l.getD j zI0)).size : Int) > 200), fun z => l.length - z.1.toNat, ⟨0, Nat.zero_le _, rfl, fun j h => by omega⟩, ?_⟩
  rintro i ⟨k, hk, hi, hno⟩
  simp only at hi
  subst hi
  refine ⟨fun h1 => ⟨⟨by omega, h1⟩, fun h2 => ?_, fun h2 => ?_⟩, fun h1 => ?_⟩
  · rw [toNat_cast] at h2
    have hlt : k < l.length := by omega
    exact yes (.inr (.inr (.inr (.inr ⟨_, getD_in zI0 hlt, h2⟩))))
  · rw [toNat_cast] at h2
    have hw : IntKind.i64.wrap ((k : Int) + 1) = ((k + 1 : Nat) : Int) := wrap_succ (by omega)
    rw [hw]
    refine ⟨⟨k + 1, by omega, rfl, fun j hj => ?_⟩, by simp only [toNat_cast]; omega⟩
    by_cases e : j = k
    · subst e; exact h2
    · exact hno j (by omega)
  · have hke : k = l.length := by omega
    subst hke
    have sz : ∀ x ∈ l, ¬ ((txt x).size : Int) > 200 := fun x hx => by
      obtain ⟨j, hj, e⟩ := List.getElem_of_mem hx
      have := hno j hj
      rw [getD_of zI0 hj, e] at this
      exact this
    refine ⟨⟨by omega, fun x hx => by have := sz x hx; omega⟩, ?_⟩
    unfold longC
    have ea : (l.any fun x => decide (((txt x).size : Int) > 200)) = false := by
      rw [List.any_eq_false]
      intro x hx
      simpa using sz x hx
    show _ = (decide (n < 0) || decide (n > 200) || decide ((l.length : Int) > 60) || decide ((hid.length : Int) > 100) || (l.any fun x => decide (((txt x).size : Int) > 200)) || decide ((newW n l).2.2.1 ≠ 0))
    rw [decide_eq_false g0, decide_eq_false g1, decide_eq_false g2, decide_eq_false g3, ea]
    simp only [Bool.false_or]
    rw [Bool.eq_iff_iff]
    simp
end Go.Fr.Z16
namespace Go.Fr.Z16
open Go Go.Fr Go.Proofs
set_option maxRecDepth 100000
def hs3 : List (Nat × Nat × Hint) := []
def nm3 : List Nat := [3000000062]
noncomputable def E3 : Env := env tab [(8, cLongC), (9, cRefRight), (10, cSix), (12, cWoven), (11, cNewC), (13, cSizeT), (14, cPlacesT), (15, cOutC), (16, cRefOutC), (17, cInC), (18, cStarts), (19, cRefInC)] [] gl hs3 nm3
def vc3 : Prop :=
 ∀ (x : (Int × List Inl × List (Int × Int × Unit) × Unit) × Int × Unit),
 let y := (newC (wovenT x.fst) x.fst.snd.snd.fst).fst;
 let y_1 := x.fst;
 let y_2 := x.snd.fst;
 let y_3 := decide (y_2 < (0 : Int));
 let y_4 := decide (y_2 > (↑(List.length (starts (sizeT y_1) (placesT y_1))) : Int));
 let y_5 := y_1.snd.snd.fst;
 let y_6 := y_1.snd.fst;
 let y_7 := decide (y_2 > sizeT y_1);
 let y_8 := y_1.fst;
 let y_9 := List.length (placesT y_1);
 let y_10 := (newC (wovenT y_1) y_5).snd.fst != (0 : Int);
 let y_11 := inCr y y_2;
 let y_12 := outCr y y_2;
 let y_13 := y_12.snd.fst != (1 : Int);
 let y_14 := y_12.fst != (0 : Int);
 let y_15 := y_12.fst != refOutC (sizeT y_1) (placesT y_1) y_2;
 let y_16 := y_12.snd.fst != (0 : Int);
 let y_17 := y_11.snd.fst == (1 : Int);
 let y_18 := y_11.fst == refInC (sizeT y_1) (placesT y_1) y_2;
 let y_19 := y_11.fst == (0 : Int);
 let y_20 := y_11.snd.fst == (0 : Int);
 List.length y_6 ≤ maxLen ∧ List.length y_5 ≤ maxLen →
 (List.length y_6 ≤ maxLen ∧ List.length y_5 ≤ maxLen) ∧
 (longC y_1 = true → True ∧ true = true) ∧
 (longC y_1 = false →
 List.length y_5 ≤ maxLen ∧
 ((!rightL y_8 (0 : Int) y_5) = true → True ∧ true = true) ∧
 ((!rightL y_8 (0 : Int) y_5) = false →
 (List.length y_6 ≤ maxLen ∧ shortL y_6) ∧
 (WfN (topT (treeOf (wovenT y_1))) ∧ List.length y_5 ≤ (10000 : Nat)) ∧
 (y_10 = true → false = true) ∧
 (y_10 = false →
 (Option.isNone y = true → false = true) ∧
 (Option.isNone y = false →
 (okTxt y_1 ∧ smallW (newW y_8 y_6)) ∧
 (okTxt y_1 ∧ smallW (newW y_8 y_6)) ∧
 okTre (treeOf y) ∧
 (y_3 = true →
 (y_13 = true → false = true) ∧
 (y_13 = false →
 (y_14 = true → false = true) ∧
 (y_14 = false →
 WfN (topT (treeOf y)) ∧
 (y_3 = true →
 (y_17 = true →
 (y_19 = true → True ∧ true = true) ∧
 (y_19 = false → false = true)) ∧
 (y_17 = false → false = true)) ∧
 (y_3 = false →
 (sizeT y_1 ≤ (1000000000 : Int) ∧ y_9 ≤ maxLen) ∧
 (y_4 = true →
 (y_17 = true →
 (y_19 = true → True ∧ true = true) ∧
 (y_19 = false → false = true)) ∧
 (y_17 = false → false = true)) ∧
 (y_4 = false →
 (y_20 = true →
 (sizeT y_1 ≤ (1000000000 : Int) ∧
 y_9 ≤ maxLen ∧
 (0 : Int) ≤ y_2 ∧
 y_2 ≤
 (↑(List.length
 (starts (sizeT y_1) (placesT y_1))) :
 Int)) ∧
 (y_18 = true → True ∧ true = true) ∧
 (y_18 = false → false = true)) ∧
 (y_20 = false → false = true)))))) ∧
 (y_3 = false →
 (y_7 = true →
 (y_13 = true → false = true) ∧
 (y_13 = false →
 (y_14 = true → false = true) ∧
 (y_14 = false →
 WfN (topT (treeOf y)) ∧
 (y_3 = true →
 (y_17 = true →
 (y_19 = true → True ∧ true = true) ∧
 (y_19 = false → false = true)) ∧
 (y_17 = false → false = true)) ∧
 (y_3 = false →
 (sizeT y_1 ≤ (1000000000 : Int) ∧ y_9 ≤ maxLen) ∧
 (y_4 = true →
 (y_17 = true →
 (y_19 = true → True ∧ true = true) ∧
 (y_19 = false → false = true)) ∧
 (y_17 = false → false = true)) ∧
 (y_4 = false →
 (y_20 = true →
 (sizeT y_1 ≤ (1000000000 : Int) ∧
 y_9 ≤ maxLen ∧
 (0 : Int) ≤ y_2 ∧
 y_2 ≤
 (↑(List.length
 (starts (sizeT y_1) (placesT y_1))) :
 Int)) ∧
 (y_18 = true → True ∧ true = true) ∧
 (y_18 = false → false = true)) ∧
 (y_20 = false → false = true)))))) ∧
 (y_7 = false →
 (y_16 = true → false = true) ∧
 (y_16 = false →
 (sizeT y_1 ≤ (1000000000 : Int) ∧ y_9 ≤ maxLen) ∧
 (y_15 = true → false = true) ∧
 (y_15 = false →
 WfN (topT (treeOf y)) ∧
 (y_3 = true →
 (y_17 = true →
 (y_19 = true → True ∧ true = true) ∧
 (y_19 = false → false = true)) ∧
 (y_17 = false → false = true)) ∧
 (y_3 = false →
 (sizeT y_1 ≤ (1000000000 : Int) ∧ y_9 ≤ maxLen) ∧
 (y_4 = true →
 (y_17 = true →
 (y_19 = true → True ∧ true = true) ∧
 (y_19 = false → false = true)) ∧
 (y_17 = false → false = true)) ∧
 (y_4 = false →
 (y_20 = true →
 (sizeT y_1 ≤ (1000000000 : Int) ∧
 y_9 ≤ maxLen ∧
 (0 : Int) ≤ y_2 ∧
 y_2 ≤
 (↑(List.length
 (starts (sizeT y_1)
 (placesT y_1))) :
 Int)) ∧
 (y_18 = true → True ∧ true = true) ∧
 (y_18 = false → false = true)) ∧
 (y_20 = false → false = true)))))))))))
theorem vcEq3 : fnVC E3 Tryz.f3 (bodyOf Tryz.f3) cCreasePlaces = vc3 := by kernel_rfl
def hs4 : List (Nat × Nat × Hint) := [(0, 9, ⟨[.slot 7 t3, .slot 8 t3], [1, 3, 5, 6], [1], []⟩),
  (0, 21, ⟨[.slot 7 t3, .slot 14 t3], [3, 5, 6, 13], [], []⟩),
  (0, 25, ⟨[.slot 15 t3, .slot 99 t3], [3, 5, 6, 7, 13, 14, 97, 98], [], []⟩)]
def nm4 : List Nat := [3000000062]
noncomputable def E4 : Env := env tab [(8, cLongC), (9, cRefRight), (10, cSix), (12, cWoven), (11, cNewC), (20, cSizesC), (17, cInC), (15, cOutC), (14, cPlacesT)] [] gl hs4 nm4
def vc4 : Prop :=
 ∀ (x : (Int × List Inl × List (Int × Int × Unit) × Unit) × Unit),
 let y := (newC (wovenT x.fst) x.fst.snd.snd.fst).fst;
 let y_1 := x.fst;
 let y_2 := y_1.snd.snd.fst;
 let y_3 := y_1.snd.fst;
 let y_4 := (↑(List.length (placesT y_1)) : Int);
 let y_5 := y_1.fst;
 let y_6 := (newC (wovenT y_1) y_2).snd.fst != (0 : Int);
 List.length y_3 ≤ maxLen ∧ List.length y_2 ≤ maxLen →
 (List.length y_3 ≤ maxLen ∧ List.length y_2 ≤ maxLen) ∧
 (longC y_1 = true → True ∧ true = true) ∧
 (longC y_1 = false →
 List.length y_2 ≤ maxLen ∧
 ((!rightL y_5 (0 : Int) y_2) = true → True ∧ true = true) ∧
 ((!rightL y_5 (0 : Int) y_2) = false →
 (List.length y_3 ≤ maxLen ∧ shortL y_3) ∧
 (WfN (topT (treeOf (wovenT y_1))) ∧ List.length y_2 ≤ (10000 : Nat)) ∧
 (y_6 = true → false = true) ∧
 (y_6 = false →
 (Option.isNone y = true → false = true) ∧
 (Option.isNone y = false →
 True ∧
 (((0 : Int) = (0 : Int) ∧
 (-1 : Int) = (-1 : Int) ∧ True ∧ y = y ∧ nW y = nW y ∧ mW y = mW y) ∧
 y_5 = y_5 ∧ y_3 = y_3 ∧ y_2 = y_2) ∧
 ∃ (Z : Int × Int × Unit → Prop),
 ∃ (μ : Int × Int × Unit → Nat),
 Z ((-1 : Int), (0 : Int), ()) ∧
 ∀ (a a_1 : Int),
 let y_7 := (inCr y a_1).fst;
 let y_8 := (a, a_1, ());
 let y_9 := IntKind.wrap IntKind.i64 (a_1 + (1 : Int));
 let y_10 := (inCr y a_1).snd.fst != (0 : Int);
 let y_11 := (y_7, y_9, ());
 let y_12 := (outCr y y_7).snd.fst != (0 : Int);
 Z y_8 →
 (decide (a_1 ≤ mW y) = true →
 WfN (topT (treeOf y)) ∧
 okTre (treeOf y) ∧
 (y_10 = true → false = true) ∧
 (y_10 = false →
 (y_12 = true → false = true) ∧
 (y_12 = false →
 (((outCr y y_7).fst != a_1) = true → false = true) ∧
 (((outCr y y_7).fst != a_1) = false →
 (decide (y_7 ≤ a) = true → false = true) ∧
 (decide (y_7 ≤ a) = false →
 ((y_9 = y_9 ∧
 y_7 = y_7 ∧
 True ∧ y = y ∧ nW y = nW y ∧ mW y = mW y) ∧
 y_5 = y_5 ∧ y_3 = y_3 ∧ y_2 = y_2) ∧
 Z y_11 ∧ μ y_11 < μ y_8))))) ∧
 (decide (a_1 ≤ mW y) = false →
 ((a != nW y) = true → false = true) ∧
 ((a != nW y) = false →
 (okTxt y_1 ∧ smallW (newW y_5 y_3)) ∧
 ((0 : Int) = (0 : Int) ∧
 (0 : Int) = (0 : Int) ∧
 y = y ∧
 nW y = nW y ∧ mW y = mW y ∧ placesT y_1 = placesT y_1) ∧
 ∃ (Z : Int × Int × Unit → Prop),
 ∃ (μ : Int × Int × Unit → Nat),
 Z ((0 : Int), (0 : Int), ()) ∧
 ∀ (a a_4 : Int),
 let y_13 := (outCr y a_4).fst;
 let y_14 := (a, a_4, ());
 let y_15 := IntKind.wrap IntKind.i64 (a_4 + (1 : Int));
 let y_16 := (outCr y a_4).snd.fst != (0 : Int);
 let y_17 := (y_13, y_15, ());
 let y_18 := (inCr y y_13).snd.fst != (0 : Int);
 Z y_14 →
 (decide (a_4 ≤ nW y) = true →
 ((0 : Int) = (0 : Int) ∧
 a_4 = a_4 ∧
 y = y ∧
 nW y = nW y ∧
 mW y = mW y ∧
 a = a ∧
 placesT y_1 = placesT y_1 ∧
 a_4 = a_4 ∧
 placesT y_1 = placesT y_1 ∧
 y_4 = y_4) ∧
 ∃ (Z_1 : Int × Int × Unit → Prop),
 ∃ (μ_1 : Int × Int × Unit → Nat),
 Z_1 (a_4, (0 : Int), ()) ∧
 ∀ (a_7 a_8 : Int),
 let y_19 :=  IntKind.wrap IntKind.i64  (a_8 + (1 : Int));
 let y_20 := (a_7, a_8, ());
 let y_21 :=  (List.getD (placesT y_1) (Int.toNat a_8)  (Ty.dflt t46)).fst;
 let y_22 :=  (List.getD (placesT y_1) (Int.toNat a_8)  (Ty.dflt t46)).snd.fst;
 let y_23 := (a_7, y_19, ());
 let y_24 := (y_21, y_19, ());
 Z_1 y_20 →
 (decide (a_8 < y_4) = true →
 ((0 : Int) ≤ a_8 ∧ a_8 < y_4) ∧
 (decide (y_21 < a_4) = true →
 (decide (a_4 < y_22) = true →
 (y_19 = y_19 ∧
 y_21 = y_21 ∧
 y = y ∧
 nW y = nW y ∧
 mW y = mW y ∧
 a = a ∧
 placesT
 y_1 =
 placesT
 y_1 ∧
 a_4 =
 a_4 ∧
 placesT
 y_1 =
 placesT
 y_1 ∧
 y_4 =
 y_4) ∧
 Z_1 y_24 ∧
 μ_1 y_24 < μ_1 y_20) ∧
 (decide (a_4 < y_22) =
 false →
 (y_19 = y_19 ∧
 a_7 = a_7 ∧
 y = y ∧
 nW y = nW y ∧
 mW y = mW y ∧
 a = a ∧
 placesT
 y_1 =
 placesT
 y_1 ∧
 a_4 =
 a_4 ∧
 placesT
 y_1 =
 placesT
 y_1 ∧
 y_4 =
 y_4) ∧
 Z_1 y_23 ∧
 μ_1 y_23 <
 μ_1 y_20)) ∧
 (decide (y_21 < a_4) = false →
 (y_19 = y_19 ∧
 a_7 = a_7 ∧
 y = y ∧
 nW y = nW y ∧
 mW y = mW y ∧
 a = a ∧
 placesT y_1 =
 placesT
 y_1 ∧
 a_4 = a_4 ∧
 placesT
 y_1 =
 placesT
 y_1 ∧
 y_4 =
 y_4) ∧
 Z_1 y_23 ∧
 μ_1 y_23 < μ_1 y_20)) ∧
 (decide (a_8 < y_4) = false →
 okTre (treeOf y) ∧
 WfN (topT (treeOf y)) ∧
 (y_16 = true → false = true) ∧
 (y_16 = false →
 (y_18 = true →
 false = true) ∧
 (y_18 = false →
 (((inCr y y_13).fst !=
 a_7) =
 true →
 false = true) ∧
 (((inCr y y_13).fst !=
 a_7) =
 false →
 (decide (y_13 < a) =
 true →
 false = true) ∧
 (decide
 (y_13 < a) =
 false →
 (y_15 = y_15 ∧
 y_13 =
 y_13 ∧
 y = y ∧
 nW y =
 nW
 y ∧
 mW y =
 mW
 y ∧
 placesT
 y_1 =
 placesT
 y_1) ∧
 Z y_17 ∧
 μ y_17 <
 μ
 y_14)))))) ∧
 (decide (a_4 ≤ nW y) = false →
 ((a == mW y) = true → True ∧ true = true) ∧
 ((a == mW y) = false → false = true))))))))
theorem vcEq4 : fnVC E4 Tryz.f4 (bodyOf Tryz.f4) cCreaseThere = vc4 := by kernel_rfl
def hs5 : List (Nat × Nat × Hint) := []
def nm5 : List Nat := [3000000062]
noncomputable def E5 : Env := env tab [(8, cLongC), (10, cSix), (12, cWoven), (11, cNewC), (9, cRefRight), (21, cIsC)] [] gl hs5 nm5
def vc5 : Prop :=
 ∀ (x : (Int × List Inl × List (Int × Int × Unit) × Unit) × Unit),
 List.length x.fst.snd.fst ≤ maxLen ∧ List.length x.fst.snd.snd.fst ≤ maxLen →
 (List.length x.fst.snd.fst ≤ maxLen ∧ List.length x.fst.snd.snd.fst ≤ maxLen) ∧
 (longC x.fst = true → True ∧ true = true) ∧
 (longC x.fst = false →
 (List.length x.fst.snd.fst ≤ maxLen ∧ shortL x.fst.snd.fst) ∧
 (WfN (topT (treeOf (wovenT x.fst))) ∧ List.length x.fst.snd.snd.fst ≤ (10000 : Nat)) ∧
 (Option.isNone (wovenT x.fst) = true → false = true) ∧
 (Option.isNone (wovenT x.fst) = false →
 List.length x.fst.snd.snd.fst ≤ maxLen ∧
 ((!rightL x.fst.fst (0 : Int) x.fst.snd.snd.fst) = true →
 (((newC (wovenT x.fst) x.fst.snd.snd.fst).snd.fst == (1 : Int)) = true →
 (Option.isNone (newC (wovenT x.fst) x.fst.snd.snd.fst).fst = true → True ∧ true = true) ∧
 (Option.isNone (newC (wovenT x.fst) x.fst.snd.snd.fst).fst = false → false = true)) ∧
 (((newC (wovenT x.fst) x.fst.snd.snd.fst).snd.fst == (1 : Int)) = false → false = true)) ∧
 ((!rightL x.fst.fst (0 : Int) x.fst.snd.snd.fst) = false →
 (((newC (wovenT x.fst) x.fst.snd.snd.fst).snd.fst == (0 : Int)) = true →
 (okTxt x.fst ∧
 smallW (newW x.fst.fst x.fst.snd.fst) ∧
 lowT (topT (treeOf (newC (wovenT x.fst) x.fst.snd.snd.fst).fst))) ∧
 (isC (newC (wovenT x.fst) x.fst.snd.snd.fst).fst x.fst = true → True ∧ true = true) ∧
 (isC (newC (wovenT x.fst) x.fst.snd.snd.fst).fst x.fst = false → false = true)) ∧
 (((newC (wovenT x.fst) x.fst.snd.snd.fst).snd.fst == (0 : Int)) = false → false = true))))
theorem vcEq5 : fnVC E5 Tryz.f5 (bodyOf Tryz.f5) cCreaseNew = vc5 := by kernel_rfl
def hs10 : List (Nat × Nat × Hint) := []
def nm10 : List Nat := [3000000062]
noncomputable def E10 : Env := env tab [(32, cNew), (33, cWeave), (11, cNewC), (15, cOutC), (17, cInC), (34, cHeightC)] [] gl hs10 nm10
def vc10 : Prop :=
 ∀ (_x : Unit),
 True →
 ((0 : Nat) ≤ maxLen ∧ shortL []) ∧
 (List.length (allI (newI (6 : Int) []).fst) ≤ (10000 : Nat) ∧ shortL (allI (newI (6 : Int) []).fst)) ∧
 (WfN (topT (treeOf (weaveI (newI (6 : Int) []).fst))) ∧
 List.length [((1 : Int), (4 : Int), ())] ≤ (10000 : Nat)) ∧
 okTre (treeOf (newC (weaveI (newI (6 : Int) []).fst) [((1 : Int), (4 : Int), ())]).fst) ∧
 okTre (treeOf (newC (weaveI (newI (6 : Int) []).fst) [((1 : Int), (4 : Int), ())]).fst) ∧
 WfN (topT (treeOf (newC (weaveI (newI (6 : Int) []).fst) [((1 : Int), (4 : Int), ())]).fst)) ∧
 (((newI (6 : Int) []).snd.fst == (0 : Int)) = true →
 (((newC (weaveI (newI (6 : Int) []).fst) [((1 : Int), (4 : Int), ())]).snd.fst == (0 : Int)) =
 true →
 (((outCr (newC (weaveI (newI (6 : Int) []).fst) [((1 : Int), (4 : Int), ())]).fst
 (3 : Int)).snd.fst ==
 (0 : Int)) =
 true →
 (((outCr (newC (weaveI (newI (6 : Int) []).fst) [((1 : Int), (4 : Int), ())]).fst
 (4 : Int)).snd.fst ==
 (0 : Int)) =
 true →
 (((inCr (newC (weaveI (newI (6 : Int) []).fst) [((1 : Int), (4 : Int), ())]).fst
 (2 : Int)).snd.fst ==
 (0 : Int)) =
 true →
 (((outCr (newC (weaveI (newI (6 : Int) []).fst) [((1 : Int), (4 : Int), ())]).fst
 (3 : Int)).fst ==
 (1 : Int)) =
 true →
 (((outCr
 (newC (weaveI (newI (6 : Int) []).fst)
 [((1 : Int), (4 : Int), ())]).fst
 (4 : Int)).fst ==
 (2 : Int)) =
 true →
 (((inCr
 (newC (weaveI (newI (6 : Int) []).fst)
 [((1 : Int), (4 : Int), ())]).fst
 (2 : Int)).fst ==
 (4 : Int)) =
 true →
 True ∧
 (heightOf
 (topT
 (treeOf
 (newC (weaveI (newI (6 : Int) []).fst)
 [((1 : Int), (4 : Int), ())]).fst)) ==
 (1 : Int)) =
 true) ∧
 (((inCr
 (newC (weaveI (newI (6 : Int) []).fst)
 [((1 : Int), (4 : Int), ())]).fst
 (2 : Int)).fst ==
 (4 : Int)) =
 false →
 false = true)) ∧
 (((outCr
 (newC (weaveI (newI (6 : Int) []).fst)
 [((1 : Int), (4 : Int), ())]).fst
 (4 : Int)).fst ==
 (2 : Int)) =
 false →
 false = true)) ∧
 (((outCr (newC (weaveI (newI (6 : Int) []).fst) [((1 : Int), (4 : Int), ())]).fst
 (3 : Int)).fst ==
 (1 : Int)) =
 false →
 false = true)) ∧
 (((inCr (newC (weaveI (newI (6 : Int) []).fst) [((1 : Int), (4 : Int), ())]).fst
 (2 : Int)).snd.fst ==
 (0 : Int)) =
 false →
 false = true)) ∧
 (((outCr (newC (weaveI (newI (6 : Int) []).fst) [((1 : Int), (4 : Int), ())]).fst
 (4 : Int)).snd.fst ==
 (0 : Int)) =
 false →
 false = true)) ∧
 (((outCr (newC (weaveI (newI (6 : Int) []).fst) [((1 : Int), (4 : Int), ())]).fst
 (3 : Int)).snd.fst ==
 (0 : Int)) =
 false →
 false = true)) ∧
 (((newC (weaveI (newI (6 : Int) []).fst) [((1 : Int), (4 : Int), ())]).snd.fst == (0 : Int)) =
 false →
 false = true)) ∧
 (((newI (6 : Int) []).snd.fst == (0 : Int)) = false → false = true)
theorem vcEq10 : fnVC E10 Tryz.f10 (bodyOf Tryz.f10) cSix = vc10 := by kernel_rfl
end Go.Fr.Z16
namespace Go.Fr.Z16
open Go Go.Fr Go.Proofs
theorem size_bd {t : Txt} (h : smallW (newW t.1 t.2.1)) : sizeT t ≤ 1000000000 := by
  obtain ⟨h1, h2, h3, h4⟩ := h
  have := spots_bd h1 h2 h4
  unfold sizeT
  omega
theorem places_len (t : Txt) : (placesT t).length = t.2.2.1.length := List.length_map _
theorem low_height {n : Nd} (h : lowT n) : 0 ≤ heightOf n ∧ heightOf n ≤ 4 := by
  rcases h.1 with e | ⟨k, h1, w⟩
  · rw [e]; decide
  · rw [(wf_height w).1]; omega
theorem p21 : vc21 := by
  unfold vc21
  simp only [eq_self, true_and, and_true, decide_eq_true_eq, decide_eq_false_iff_not, beq_iff_eq, beq_eq_false_iff_ne, bne_iff_ne, bne_eq_false_iff_eq, ne_eq]
  rintro ⟨c, t, ⟨⟩⟩
  simp only [maxLen_eq, d105, d106]
  rintro ⟨h1, h2, h3⟩
  have ei : isC c t = (c.isSome && (decide (piecesC (treeOf c) = refPiecesC (sizeT t) (placesT t)) && (decide (nW c = sizeT t) && (decide (mW c = ((starts (sizeT t) (placesT t)).length : Int)) && highB (heightOf (topT (treeOf c))) ((piecesC (treeOf c)).length : Int))))) := by
    unfold isC piecesC
    rw [List.length_map]
  have sz := size_bd h2
  have pl : (placesT t).length ≤ 9223372036854775807 := by rw [places_len]; have := h1.2.2.2.2; omega
  have hb := low_height h3
  have pn : (piecesC (treeOf c)).length ≤ 10000 := by
    unfold piecesC
    rw [List.length_map]
    exact h3.2
  rw [ei]
  generalize piecesC (treeOf c) = P at pn ⊢
  generalize refPiecesC (sizeT t) (placesT t) = R
  cases c with
  | none => exact ⟨fun _ => rfl, fun h => by cases h⟩
  | some c =>
    refine ⟨fun h => (by cases h), fun _ => ⟨h3, ⟨h1, h2⟩, ⟨h1, h2⟩, ⟨sz, pl⟩, ?_⟩⟩
    have no : ¬ P = R → false = ((some c).isSome && (decide (P = R) && (decide (nW (some c) = sizeT t) && (decide (mW (some c) = ((starts (sizeT t) (placesT t)).length : Int)) && highB (heightOf (topT (treeOf (some c)))) (P.length : Int))))) := fun h => by
      rw [decide_eq_false h]
      rfl
    refine ⟨SameAt P R, fun z => P.length - z.1.toNat, ⟨0, Nat.zero_le _, Nat.zero_le _, rfl, rfl⟩, ?_⟩
    rintro i ⟨k, k1, k2, hi, ht⟩
    simp only at hi
    subst hi
    refine ⟨fun h => ⟨by omega, fun g => no (fun e => by rw [e] at h; omega), fun g => ⟨by omega, fun g2 => no (fun e => by rw [e] at g2; exact g2 rfl), fun g2 => ⟨by omega, fun g3 => no (fun e => by rw [e] at g3; exact g3 rfl), fun g3 => ?_⟩⟩⟩, fun h => ?_⟩
    · have hw : IntKind.i64.wrap ((k : Int) + 1) = ((k + 1 : Nat) : Int) := wrap_succ (by omega)
      rw [toNat_cast] at g2 g3
      rw [hw]
      refine ⟨same_step (0, 0, ()) (by omega) (by omega) ht ?_, by simp only [toNat_cast]; omega⟩
      generalize P.getD k (0, 0, ()) = p at g2 g3 ⊢
      generalize R.getD k (0, 0, ()) = r at g2 g3 ⊢
      obtain ⟨p1, p2, ⟨⟩⟩ := p
      obtain ⟨r1, r2, ⟨⟩⟩ := r
      simp only at g2 g3
      rw [g2, g3]
    · have en := same_end h k1 ht
      refine ⟨fun g => ?_, fun g => no (fun e => by rw [e] at g; exact g rfl)⟩
      have e : P = R := by
        have : (((P.length : Nat) : Int) == ((R.length : Nat) : Int)) = true := by rw [beq_iff_eq]; exact g
        rw [this] at en
        exact of_decide_eq_true en.symm
      rw [decide_eq_true e]
      refine ⟨⟨h1, h2⟩, fun g2 => ⟨⟨h1, h2⟩, ⟨h1, h2⟩, ⟨sz, pl⟩, fun g3 => ⟨⟨by omega, by omega, by omega⟩, ?_⟩, fun g3 => ?_⟩, fun g2 => ?_⟩
      · rw [decide_eq_true g2, decide_eq_true g3]
        rfl
      · rw [decide_eq_false g3]
        simp
      · rw [decide_eq_false g2]
        rfl
theorem text_all {n : Int} {l : List Inl} {hid : List Span} (h : longC (n, l, hid, ()) = false) : ∃ L, WOk n L ∧ newW n l = (n, L, 0, ()) ∧ wovenT (n, l, hid, ()) = weaveI (some (n, L, ())) ∧ hid.length ≤ 100 ∧ n ≤ 200 ∧ okTxt (n, l, hid, ()) ∧ smallW (newW n l) ∧ shortL l ∧
    (some (n, L, ()) : Option ISet) = (newI n l).1 ∧ Made (newI n l).1 (newW n l) ∧ WfN (topT (treeOf (wovenT (n, l, hid, ())))) := by
  unfold longC at h
  simp only [Bool.or_eq_false_iff, decide_eq_false_iff_not, List.any_eq_false, decide_eq_true_eq, ne_eq, Decidable.not_not] at h
  obtain ⟨⟨⟨⟨⟨h1, h2⟩, h3⟩, h4⟩, h5⟩, h6⟩ := h
  have hw : wrongN n l = 0 := by rw [← (code_ok n l).2.2]; exact h6
  have hs : shortL l := fun x hx => by have := h5 x hx; omega
  obtain ⟨n', L, e1, e2, a1, a2, a3, a4, a5, a6, a7, a8, a9⟩ := made_all (made_new hw)
  have en : n = n' := by
    rw [newW_fst hw] at e2
    exact congrArg (fun w : WSet => w.1) e2
  subst en
  have ew : wovenT (n, l, hid, ()) = weaveI (some (n, L, ())) := by
    unfold wovenT
    rw [if_neg]
    · rw [e1]
    · rintro (h | h)
      · rw [(code_ok n l).2.1] at h; exact h hw
      · have h : (newI n l).1.isNone = true := h
        rw [e1] at h; cases h
  refine ⟨L, ⟨a1, by omega, a3, a4⟩, e2, ew, by omega, by omega, ⟨by show 0 ≤ n; omega, by show n ≤ 1000; omega, by show l.length ≤ 60; omega, hs, by show hid.length ≤ 1000; omega⟩, ?_, hs, e1.symm, made_new hw, ?_⟩
  · rw [e2]
    exact ⟨a3, a5, by show 0 ≤ n; omega, by show n ≤ 1000; omega⟩
  · rw [ew, ← e1]
    exact a8
theorem cr_ok {m : Int} {pl : List Span} {c : Wve} (h : CrOf m pl c) (hm : m ≤ 1000000) (sp : Spans 0 m pl) (hn : pl.length ≤ 200) : okTre (treeOf c) ∧ WfN (topT (treeOf c)) ∧ lowT (topT (treeOf c)) := by
  have len := rowK_len (t := m) 0 pl
  have ck := rowK_check (t := m) (by omega) (Int.le_refl _) sp
  have h3 := h.2.2
  have hb : (items (topT (treeOf c))).length ≤ 401 := by rw [h3]; omega
  refine ⟨⟨h.2.1, by omega, by rw [h3]; exact ck⟩, h.2.1, low_wf h.2.1 (by omega), by omega⟩
theorem p5 : vc5 := by
  unfold vc5
  simp only [eq_self, true_and, and_true, beq_iff_eq, beq_eq_false_iff_ne, bne_iff_ne, bne_eq_false_iff_eq, ne_eq, Bool.not_eq_true', Bool.not_eq_false']
  rintro ⟨⟨n, l, hid, ⟨⟩⟩, ⟨⟩⟩ h0
  refine ⟨h0, fun _ => trivial, fun hl => ?_⟩
  obtain ⟨L, hw, e1, e2, b1, b2, b3, b4, b5, b6, b7, b8⟩ := text_all hl
  have lb := wok_lens hw
  simp only
  rw [e2] at b8 ⊢
  refine ⟨⟨h0.1, b5⟩, ⟨b8, by omega⟩, fun h => ?_, fun _ => ⟨h0.2, fun hr => ?_, fun hr => ?_⟩⟩
  · exfalso
    rw [(weave_ok hw.1 (by have := hw.2.1; omega) hw.2.2.1 hw.2.2.2).1] at h
    cases h
  · have ns : ¬ Spans 0 n hid := fun h => by rw [(rightL_iff 0 hid hw.1).2 h] at hr; cases hr
    rw [newC_bad hw ns]
    exact ⟨fun _ => ⟨fun _ => trivial, fun h => by cases h⟩, fun h => absurd rfl h⟩
  · have sp : Spans 0 n hid := (rightL_iff 0 hid hw.1).1 hr
    obtain ⟨c1, c2⟩ := newC_ok hw sp (by omega)
    have ll : (wovenS L hid).length = hid.length := List.length_map _
    have ok := cr_ok c2 (by have := hw.2.1; omega) (wok_spans hw sp) (by omega)
    have ic := isC_ok (u := ()) hw sp (by omega) e1 c2
    rw [c1]
    simp only
    rw [ic]
    exact ⟨fun _ => ⟨⟨b3, b4, ok.2.2⟩, fun _ => trivial, fun h => by cases h⟩, fun h => absurd trivial h⟩
end Go.Fr.Z16
namespace Go.Fr.Z16
open Go Go.Fr Go.Proofs
theorem sizeT_ok {n : Int} {L l : List Inl} {hid : List Span} {u : Unit} (h : WOk n L) (hw : newW n l = (n, L, 0, ())) : sizeT (n, l, hid, u) = n + lens L := by
  show ((spots (newW n l)).length : Int) = _
  rw [hw]
  exact spots_w h
theorem placesT_ok {n : Int} {L l : List Inl} {hid : List Span} {u : Unit} (h : WOk n L) (hw : newW n l = (n, L, 0, ())) (hs : Spans 0 n hid) : placesT (n, l, hid, u) = wovenS L hid := by
  show refPlaces (newW n l) hid = _
  rw [hw]
  exact (places_w h hs).2
theorem p3 : vc3 := by
  unfold vc3
  simp only [eq_self, true_and, and_true, decide_eq_true_eq, decide_eq_false_iff_not, beq_iff_eq, beq_eq_false_iff_ne, bne_iff_ne, bne_eq_false_iff_eq, ne_eq, Bool.not_eq_true', Bool.not_eq_false']
  rintro ⟨⟨n, l, hid, ⟨⟩⟩, a, ⟨⟩⟩
  simp only
  intro h0
  refine ⟨h0, fun _ => trivial, fun hl => ⟨h0.2, fun _ => trivial, fun hr => ?_⟩⟩
  obtain ⟨L, hw, e1, e2, b1, b2, b3, b4, b5, b6, b7, b8⟩ := text_all hl
  have lb := wok_lens hw
  have sp : Spans 0 n hid := (rightL_iff 0 hid hw.1).1 hr
  obtain ⟨c1, c2⟩ := newC_ok hw sp (by omega)
  have ll : (wovenS L hid).length = hid.length := List.length_map _
  have ws := wok_spans hw sp
  have hm : n + lens L ≤ 1000000 := by have := hw.2.1; omega
  have ok := cr_ok c2 hm ws (by omega)
  have ez := sizeT_ok (hid := hid) (u := ()) hw e1
  have ep := placesT_ok (u := ()) hw e1 sp
  obtain ⟨f1, f2, f3, f4, f5, f6, f7, f8, f9⟩ := cr_fine c2 hm ws (by omega)
  have oo := outCr_ok c2 hm ws (by omega) a
  have io := inCr_ok c2 hm ws (by omega) a
  have ro := refOutC_eq (a := a) (by omega : n + lens L ≤ 1099511627776) ws
  have ri := refInC_eq (a := a) (by omega : n + lens L ≤ 1099511627776) ws
  simp only [maxLen_eq, ez, ep]
  rw [e2] at b8 ⊢
  rw [c1]
  simp only
  generalize hc : (some (some (buildT (rowK (n + lens L) 0 (wovenS L hid)), ()), ()) : Wve) = c at *
  have hcn : c.isNone = false := by rw [← hc]; rfl
  have k1 : l.length ≤ 9223372036854775807 := h0.1
  have k2 : hid.length ≤ 10000 := by omega
  have k3 : (wovenS L hid).length ≤ 9223372036854775807 := by omega
  have k4 : n + lens L ≤ 1000000000 := by omega
  have okt := ok.1
  have okw := ok.2.1
  generalize wovenS L hid = pl at *
  generalize n + lens L = m at *
  generalize hS : ((starts m pl).length : Int) = S at *
  simp only [hcn, k1, k2, k3, k4, b3, b4, b5, b8, okt, okw, and_self, true_and, true_implies, and_true]
  by_cases h1 : a < 0
  · rw [if_pos (.inl h1)] at oo io
    simp [h1, oo, io]
  · by_cases h2 : a > m
    · have h3 : a > S := by omega
      rw [if_pos (.inr h2)] at oo
      rw [if_pos (.inr h3)] at io
      simp [h1, h2, h3, oo, io]
    · rw [if_neg (by omega)] at oo
      have ro := ro (by omega) (by omega)
      by_cases h3 : a > S
      · rw [if_pos (.inr h3)] at io
        simp [h1, h2, h3, oo, io, ro]
      · rw [if_neg (by omega)] at io
        have ri := ri (by omega) (by omega)
        have h4 : 0 ≤ a := by omega
        have h5 : a ≤ S := by omega
        simp [h1, h2, h3, h4, h5, oo, io, ro, ri]
theorem inC_le : (l : List Itm) → (a b c : Int) → CRow l → c ≤ a → a ≤ c + sum1 l → inC a l b c ≤ b + sum0 l
  | [], a, b, c, _, h, h1 => by
    have h1 : a ≤ c + 0 := h1
    show b + (a - c) ≤ b + 0
    omega
  | i :: l, a, b, c, h, h0, h1 => by
    obtain ⟨g1, g2⟩ := crow_cons h
    have hs := sums_fine (crow_fine g2)
    rw [sum1_cons] at h1
    rw [sum0_cons]
    show (if a < c + d1 i then b + (a - c) else inC a l (b + d0 i) (c + d1 i)) ≤ _
    split
    · rcases g1 with g | g <;> omega
    · have := inC_le l a (b + d0 i) (c + d1 i) g2 (by omega) (by omega)
      omega
theorem outC_le : (l : List Itm) → (a b c : Int) → CRow l → b ≤ a → a ≤ b + sum0 l → outC a l b c ≤ c + sum1 l
  | [], a, b, c, _, h, h1 => by
    have h1 : a ≤ b + 0 := h1
    show c + (a - b) ≤ c + 0
    omega
  | i :: l, a, b, c, h, h0, h1 => by
    obtain ⟨g1, g2⟩ := crow_cons h
    have hs := sums_fine (crow_fine g2)
    rw [sum0_cons] at h1
    rw [sum1_cons]
    show (if a < b + d0 i then (if i.1 = 1 then c else c + (a - b)) else outC a l (b + d0 i) (c + d1 i)) ≤ _
    split
    · split
      · rcases g1 with g | g <;> omega
      · rcases g1 with g | g <;> omega
    · have := outC_le l a (b + d0 i) (c + d1 i) g2 (by omega) (by omega)
      omega
def wantS (a w : Int) (x : Span) : Int := if x.1 < a ∧ a < x.2.1 then x.1 else w
theorem want_none {a : Int} : {l : List Span} → (w : Int) → (∀ x ∈ l, ¬ (x.1 ≤ a ∧ a < x.2.1)) → l.foldl (wantS a) w = w
  | [], _, _ => rfl
  | x :: r, w, h => by
    have hx := h x (List.mem_cons_self ..)
    rw [List.foldl_cons, show wantS a w x = w from if_neg (by omega)]
    exact want_none w fun y hy => h y (List.mem_cons_of_mem _ hy)
theorem want_fold {a m : Int} : (f : Int) → (l : List Span) → Spans f m l → l.foldl (wantS a) a = match hidX l a with | none => a | some x => x.1
  | f, [], _ => rfl
  | f, x :: r, h => by
    obtain ⟨h1, h2, h3⟩ := h
    rw [List.foldl_cons]
    by_cases hx : x.1 ≤ a ∧ a < x.2.1
    · rw [hides_head hx, want_none _ fun y hy hh => by have := (spans_all h3 y hy).1; omega]
      show (if x.1 < a ∧ a < x.2.1 then x.1 else a) = x.1
      split <;> omega
    · have e : hidX (x :: r) a = hidX r a := by
        unfold hidX
        rw [List.find?_cons_of_neg]
        simpa using hx
      rw [e, show wantS a a x = a from if_neg (by omega)]
      exact want_fold x.2.1 r h3
theorem p4 : vc4 := by
  unfold vc4
  simp only [eq_self, true_and, and_true, decide_eq_true_eq, decide_eq_false_iff_not, beq_iff_eq, beq_eq_false_iff_ne, bne_iff_ne, bne_eq_false_iff_eq, ne_eq, Bool.not_eq_true', Bool.not_eq_false']
  rintro ⟨⟨n, l, hid, ⟨⟩⟩, ⟨⟩⟩
  simp only
  intro h0
  refine ⟨h0, fun _ => trivial, fun hl => ⟨h0.2, fun _ => trivial, fun hr => ?_⟩⟩
  obtain ⟨L, hw, e1, e2, b1, b2, b3, b4, b5, b6, b7, b8⟩ := text_all hl
  have lb := wok_lens hw
  have sp : Spans 0 n hid := (rightL_iff 0 hid hw.1).1 hr
  obtain ⟨c1, c2⟩ := newC_ok hw sp (by omega)
  have ll : (wovenS L hid).length = hid.length := List.length_map _
  have ws := wok_spans hw sp
  have hm : n + lens L ≤ 1000000 := by have := hw.2.1; omega
  have ok := cr_ok c2 hm ws (by omega)
  have ep := placesT_ok (l := l) (u := ()) hw e1 sp
  obtain ⟨f1, f2, f3, f4, f5, f6, f7, f8, f9⟩ := cr_fine c2 hm ws (by omega)
  have oo := outCr_ok c2 hm ws (by omega)
  have io := inCr_ok c2 hm ws (by omega)
  have s0 := rowK_sum0 0 (wovenS L hid) ws
  simp only [maxLen_eq, ep, d46]
  rw [e2] at b8 ⊢
  rw [c1]
  simp only
  generalize hc : (some (some (buildT (rowK (n + lens L) 0 (wovenS L hid)), ()), ()) : Wve) = c at *
  have hcn : c.isNone = false := by rw [← hc]; rfl
  have okt := ok.1
  have okw := ok.2.1
  generalize wovenS L hid = pl at *
  generalize n + lens L = m at *
  rw [← f6] at io
  generalize hS : sum1 (rowK m 0 pl) = S at *
  have ie := inC_end (rowK m 0 pl) 0 0 f1
  have oe := outC_end (rowK m 0 pl) 0 0 f1
  rw [s0, hS] at ie oe
  have iu := fun a => inC_up (rowK m 0 pl) a 0 0 f1
  have ou := fun a => outC_up (rowK m 0 pl) a 0 0 f1
  have ig := fun a => inC_ge (rowK m 0 pl) a 0 0 f1
  have og := fun a => outC_ge (rowK m 0 pl) a 0 0 f1
  have il := fun a => inC_le (rowK m 0 pl) a 0 0 f1
  have ol := fun a => outC_le (rowK m 0 pl) a 0 0 f1
  rw [s0, hS] at il ol
  have oi := fun a => out_in (rowK m 0 pl) a 0 0 f1
  have i2 := fun a => in_out2 (rowK m 0 pl) a 0 0 f1
  have wf := fun a h => (inside_row (m := m) (a := a) 0 [] pl h (fun x hx => by cases hx) ws).2
  simp only [List.nil_append] at wf
  generalize rowK m 0 pl = R at *
  refine ⟨⟨h0.1, b5⟩, ⟨b8, by omega⟩, fun h => absurd trivial h, fun _ => ⟨fun h => (by rw [hcn] at h; cases h), fun _ => ?_⟩⟩
  rw [f5, f4]
  refine ⟨fun z => ∃ k : Nat, (k : Int) ≤ S + 1 ∧ z.2.1 = (k : Int) ∧ z.1 = if k = 0 then -1 else inC ((k : Int) - 1) R 0 0, fun z => (S + 1 - z.2.1).toNat, ⟨0, by omega, rfl, rfl⟩, ?_⟩
  rintro last i ⟨k, hk, hi, hla⟩
  simp only at hi hla
  subst hi
  refine ⟨fun h => ?_, fun h => ?_⟩
  · have io1 := io (k : Int)
    rw [if_neg (by omega)] at io1
    have g1 := ig (k : Int) (by omega)
    have g2 := il (k : Int) (by omega) (by omega)
    have oo1 := oo (inC (k : Int) R 0 0)
    rw [if_neg (by omega)] at oo1
    have e3 := oi (k : Int) (by omega)
    have lt : last < inC (k : Int) R 0 0 := by
      rw [hla]
      split
      · omega
      · have := iu ((k : Int) - 1) (by omega)
        rw [show (k : Int) - 1 + 1 = (k : Int) by omega] at this
        exact this
    have hw : IntKind.i64.wrap ((k : Int) + 1) = ((k + 1 : Nat) : Int) := wrap_succ (by omega)
    rw [io1]
    simp only
    rw [oo1, e3, hw]
    simp only
    refine ⟨okw, okt, fun h => absurd trivial h, fun _ => ⟨fun h => absurd trivial h, fun _ => ⟨fun h => absurd trivial h, fun _ => ⟨fun h => absurd h (by omega), fun _ => ⟨⟨k + 1, by omega, rfl, ?_⟩, by omega⟩⟩⟩⟩⟩
    rw [if_neg (by omega), show ((k + 1 : Nat) : Int) - 1 = (k : Int) by omega]
  · have ek : (k : Int) = S + 1 := by omega
    rw [if_neg (by omega), show (k : Int) - 1 = 0 + S by omega, ie] at hla
    refine ⟨fun h => absurd (by omega) h, fun _ => ⟨⟨b3, b4⟩, ?_⟩⟩
    refine ⟨fun z => ∃ k : Nat, (k : Int) ≤ m + 1 ∧ z.2.1 = (k : Int) ∧ z.1 = if k = 0 then 0 else outC ((k : Int) - 1) R 0 0, fun z => (m + 1 - z.2.1).toNat, ⟨0, by omega, rfl, rfl⟩, ?_⟩
    clear hla ek h hk
    rintro last i ⟨k, hk, hi, hla⟩
    simp only at hi hla
    subst hi
    refine ⟨fun h => ?_, fun h => ?_⟩
    · refine ⟨fun z => ∃ j : Nat, j ≤ pl.length ∧ z.2.1 = (j : Int) ∧ z.1 = (pl.take j).foldl (wantS (k : Int)) (k : Int), fun z => pl.length - z.2.1.toNat, ⟨0, Nat.zero_le _, rfl, rfl⟩, ?_⟩
      rintro w i ⟨j, hj, hi, hwa⟩
      simp only at hi hwa
      subst hi
      refine ⟨fun g => ?_, fun g => ?_⟩
      · have hlt : j < pl.length := by omega
        have hwj : IntKind.i64.wrap ((j : Int) + 1) = ((j + 1 : Nat) : Int) := wrap_succ (by omega)
        have st : (pl.take (j + 1)).foldl (wantS (k : Int)) (k : Int) = wantS (k : Int) w (pl.getD j zSp) := by
          rw [take_one zSp hlt, List.foldl_append, ← hwa]
          rfl
        rw [toNat_cast, hwj]
        simp only [toNat_cast]
        generalize pl.getD j zSp = x at st ⊢
        have dec : pl.length - (j + 1) < pl.length - j := by omega
        refine ⟨⟨by omega, g⟩, fun g1 => ⟨fun g2 => ⟨⟨j + 1, hlt, rfl, ?_⟩, dec⟩, fun g2 => ⟨⟨j + 1, hlt, rfl, ?_⟩, dec⟩⟩, fun g1 => ⟨⟨j + 1, hlt, rfl, ?_⟩, dec⟩⟩
        · rw [st]; exact (if_pos ⟨g1, g2⟩).symm
        · rw [st]; exact (if_neg (fun h => g2 h.2)).symm
        · rw [st]; exact (if_neg (fun h => g1 h.1)).symm
      · rw [show j = pl.length by omega, List.take_length, want_fold 0 pl ws] at hwa
        have hwa := hwa.trans (wf (k : Int) (by omega)).symm
        have oo1 := oo (k : Int)
        rw [if_neg (by omega)] at oo1
        have g1 := og (k : Int) (by omega)
        have g2 := ol (k : Int) (by omega) (by omega)
        have io1 := io (outC (k : Int) R 0 0)
        rw [if_neg (by omega)] at io1
        have e3 := i2 (k : Int) (by omega)
        have le : last ≤ outC (k : Int) R 0 0 := by
          rw [hla]
          split
          · omega
          · have := ou ((k : Int) - 1) (by omega)
            rw [show (k : Int) - 1 + 1 = (k : Int) by omega] at this
            exact this
        have hw : IntKind.i64.wrap ((k : Int) + 1) = ((k + 1 : Nat) : Int) := wrap_succ (by omega)
        rw [oo1]
        simp only
        rw [io1, e3, hw, hwa]
        simp only
        refine ⟨okt, okw, fun h => absurd trivial h, fun _ => ⟨fun h => absurd trivial h, fun _ => ⟨fun h => absurd trivial h, fun _ => ⟨fun h => absurd h (by omega), fun _ => ⟨⟨k + 1, by omega, rfl, ?_⟩, by omega⟩⟩⟩⟩⟩
        rw [if_neg (by omega), show ((k + 1 : Nat) : Int) - 1 = (k : Int) by omega]
    · rw [if_neg (by omega), show (k : Int) - 1 = 0 + m by omega] at hla
      refine ⟨fun _ => trivial, fun h => absurd ?_ h⟩
      rw [hla, show (0 : Int) + m = 0 + (m - 0) by omega, oe]
      omega
end Go.Fr.Z16
namespace Go.Fr.Z16
open Go Go.Fr Go.Proofs
theorem wrong6 : wrongN 6 [] = 0 := wrong_zero.2 ⟨by decide, by decide, fun x hx => (by cases hx), List.Pairwise.nil⟩
theorem new6 : newI 6 [] = (some (6, [], ()), 0, ()) := by
  rw [new_fst wrong6]
  show (some ((6 : Int), sortI [], ()), (0 : Int), ()) = _
  rw [sort_id List.Pairwise.nil List.Pairwise.nil]
theorem wok6 : WOk 6 [] := ⟨by decide, by decide, by decide, fun x hx => (by cases hx), List.Pairwise.nil, List.Pairwise.nil⟩
theorem span6 : Spans 0 6 [(1, 4, ())] := ⟨by decide, by decide, by show (4 : Int) ≤ 6; decide⟩
theorem p10 : vc10 := by
  unfold vc10
  simp only [eq_self, true_and, and_true, beq_iff_eq, beq_eq_false_iff_ne, ne_eq]
  intro _ _
  rw [new6]
  obtain ⟨c1, c2⟩ := newC_ok wok6 span6 (by decide)
  have e : wovenS [] [(1, 4, ())] = [(1, 4, ())] := rfl
  have el : (6 : Int) + lens [] = 6 := rfl
  rw [e, el] at c1 c2
  have oo := outCr_ok c2 (by decide) span6 (by decide)
  have io := inCr_ok c2 (by decide) span6 (by decide)
  have ok := cr_ok c2 (by decide) span6 (by decide)
  have hh : heightOf (topT (treeOf (some (some (buildT (rowK 6 0 [(1, 4, ())]), ()), ()) : Wve))) = 1 := rfl
  have sl : ((starts 6 [(1, 4, ())]).length : Int) = 4 := by decide
  have w1 := (sizes_w wok6).2.2
  have o3 := oo 3
  have o4 := oo 4
  have i2 := io 2
  rw [sl] at i2
  have o3 : outCr _ 3 = (1, 0, ()) := o3
  have o4 : outCr _ 4 = (2, 0, ()) := o4
  have i2 : inCr _ 2 = (4, 0, ()) := i2
  simp only
  rw [c1]
  simp only
  rw [o3, o4, i2, hh]
  refine ⟨⟨by decide, fun x hx => (by cases hx)⟩, ⟨by decide, fun x hx => (by cases hx)⟩, ⟨w1, by decide⟩, ok.1, ok.1, ok.2.1, ?_⟩
  simp
end Go.Fr.Z16
namespace Go.Fr.Z16
open Go Go.Fr Go.Proofs
set_option maxRecDepth 100000
def hs7 : List (Nat × Nat × Hint) := []
def nm7 : List Nat := [3000000062]
noncomputable def E7 : Env := env tab [(8, cLongC), (9, cRefRight), (10, cSix), (24, cRefNew), (25, cRefSplice), (12, cWoven), (11, cNewC), (26, cRefOut), (27, cUpdC), (13, cSizeT), (28, cFits2), (14, cPlacesT), (29, cAcrossL), (21, cIsC), (30, cBeside), (31, cOutside)] [] gl hs7 nm7
def vc7 : Prop :=
 ∀
 (x :
 (Int × List Inl × List (Int × Int × Unit) × Unit) ×
 ((Int × Int × Unit) ×
 List Int × List Inl × List (Int × Int × Unit) × Unit) ×
 Unit),
 let y :=  updC (newC (wovenT x.fst) x.fst.snd.snd.fst).fst  (refOut (newW x.fst.fst x.fst.snd.fst) x.snd.fst.fst.fst (0 : Int),  refOut (newW x.fst.fst x.fst.snd.fst) x.snd.fst.fst.snd.fst (1 : Int), ())  (refOut (spliceW (newW x.fst.fst x.fst.snd.fst) x.snd.fst.snd.fst x.snd.fst.snd.snd.fst) x.snd.fst.fst.fst  (0 : Int),  refOut (spliceW (newW x.fst.fst x.fst.snd.fst) x.snd.fst.snd.fst x.snd.fst.snd.snd.fst) x.snd.fst.fst.snd.fst  (1 : Int),  ())  (wovenT  (x.fst.fst, (spliceW (newW x.fst.fst x.fst.snd.fst) x.snd.fst.snd.fst x.snd.fst.snd.snd.fst).snd.fst,  x.snd.fst.snd.snd.snd))  x.snd.fst.snd.snd.snd.fst;
 let y_1 := spliceW (newW x.fst.fst x.fst.snd.fst) x.snd.fst.snd.fst x.snd.fst.snd.snd.fst;
 let y_2 := x.snd.fst.fst;
 let y_3 := x.snd.fst.snd.snd;
 let y_4 := x.fst;
 let y_5 := List.length x.snd.fst.snd.fst;
 let y_6 := decide ((↑y_5 : Int) > (60 : Int));
 let y_7 := y_4.snd;
 let y_8 := y_4.fst;
 let y_9 := newW y_8 y_7.fst;
 let y_10 := y_7.snd.fst;
 let y_11 := y_7.fst;
 let y_12 := (newC (wovenT y_4) y_10).fst;
 let y_13 := (newC (wovenT y_4) y_10).snd.fst != (0 : Int);
 let y_14 := y_3.snd.fst;
 let y_15 := List.length y_3.fst;
 let y_16 := decide ((↑y_15 : Int) > (60 : Int));
 let y_17 := decide ((↑(List.length y_14) : Int) > (100 : Int));
 let y_18 := !rightL y_8 (0 : Int) y_14;
 let y_19 := refOut y_9 y_2.snd.fst (1 : Int);
 let y_20 := y_2.snd.fst;
 let y_21 := refOut y_9 y_2.fst (0 : Int);
 let y_22 := y_2.fst;
 let y_23 := decide (y_20 > y_8);
 let y_24 := decide (y_20 < y_22);
 let y_25 := (y_21, y_19, ());
 let y_26 := (y_8, y_1.snd.fst, y_3.snd);
 let y_27 := y_1.snd.fst;
 let y_28 := (refOut y_1 y_22 (0 : Int), refOut y_1 y_20 (1 : Int), ());
 let y_29 := y_1.snd.snd.fst != (0 : Int);
 let y_30 := !besideB y_9.snd.fst y_27 y_2;
 let y_31 := newW y_8 y_27;
 let y_32 := !fits2 (sizeT y_4) (sizeT y_26) y_25 y_28;
 let y_33 := !outsideB (placesT y_4) (placesT y_26) y_25 y_28;
 let y_34 := acrossL (placesT y_26) (refOut y_1 y_20 (1 : Int));
 let y_35 := acrossL (placesT y_26) (refOut y_1 y_22 (0 : Int));
 let y_36 := y.snd.fst == (1 : Int);
 let y_37 := isC y.fst y_26;
 let y_38 := Option.isNone y.fst;
 let y_39 := y.snd.fst != (0 : Int);
 List.length y_11 ≤ maxLen ∧
 List.length y_10 ≤ maxLen ∧ y_5 ≤ maxLen ∧ y_15 ≤ maxLen ∧ List.length y_14 ≤ maxLen ∧ shortL y_3.fst →
 (List.length y_11 ≤ maxLen ∧ List.length y_10 ≤ maxLen) ∧
 (longC y_4 = true → True ∧ true = true) ∧
 (longC y_4 = false →
 List.length y_10 ≤ maxLen ∧
 ((!rightL y_8 (0 : Int) y_10) = true → True ∧ true = true) ∧
 ((!rightL y_8 (0 : Int) y_10) = false →
 (y_6 = true → True ∧ true = true) ∧
 (y_6 = false →
 (y_16 = true → True ∧ true = true) ∧
 (y_16 = false →
 (y_17 = true → True ∧ true = true) ∧
 (y_17 = false →
 (List.length y_11 ≤ maxLen ∧ shortL y_11) ∧
 (okW y_9 ∧ y_5 ≤ (10000 : Nat) ∧ y_15 ≤ (10000 : Nat) ∧ shortL y_3.fst) ∧
 (y_29 = true → True ∧ true = true) ∧
 (y_29 = false →
 (List.length y_27 ≤ maxLen ∧ List.length y_14 ≤ maxLen) ∧
 (longC y_26 = true → True ∧ true = true) ∧
 (longC y_26 = false →
 (decide (y_22 < (0 : Int)) = true → True ∧ true = true) ∧
 (decide (y_22 < (0 : Int)) = false →
 (y_24 = true → True ∧ true = true) ∧
 (y_24 = false →
 (y_23 = true → True ∧ true = true) ∧
 (y_23 = false →
 (List.length y_11 ≤ maxLen ∧ shortL y_11) ∧
 (WfN (topT (treeOf (wovenT y_4))) ∧
 List.length y_10 ≤ (10000 : Nat)) ∧
 (List.length y_27 ≤ maxLen ∧ shortL y_27) ∧
 (y_13 = true → false = true) ∧
 (y_13 = false →
 (Option.isNone y_12 = true → false = true) ∧
 (Option.isNone y_12 = false →
 (Option.isNone (wovenT y_26) = true →
 false = true) ∧
 (Option.isNone (wovenT y_26) = false →
 (List.length y_11 ≤ maxLen ∧ shortL y_11) ∧
 smallW y_9 ∧
 smallW y_9 ∧
 smallW y_1 ∧
 smallW y_1 ∧
 (okTre (treeOf y_12) ∧
 WfN
 (topT
 (treeOf (wovenT y_26))) ∧
 List.length y_14 ≤
 (10000 : Nat)) ∧
 List.length y_14 ≤ maxLen ∧
 (y_18 = true →
 (y_36 = true →
 (y_38 = true →
 True ∧ true = true) ∧
 (y_38 = false →
 false = true)) ∧
 (y_36 = false →
 false = true)) ∧
 (y_18 = false →
 (okTxt y_4 ∧ smallW y_9) ∧
 (okTxt y_26 ∧ smallW y_31) ∧
 True ∧
 (y_32 = true →
 (y_36 = true →
 (y_38 = true →
 True ∧
 true =
 true) ∧
 (y_38 =
 false →
 false =
 true)) ∧
 (y_36 = false →
 false = true)) ∧
 (y_32 = false →
 (okTxt y_4 ∧
 smallW y_9) ∧
 (okTxt y_26 ∧
 smallW y_31) ∧
 List.length
 (placesT
 y_4) ≤
 maxLen ∧
 (acrossL
 (placesT
 y_4)
 y_21 =
 true →
 (y_36 =
 true →
 (y_38 =
 true →
 True ∧
 true =
 true) ∧
 (y_38 =
 false →
 false =
 true)) ∧
 (y_36 =
 false →
 false =
 true)) ∧
 (acrossL
 (placesT
 y_4)
 y_21 =
 false →
 List.length
 (placesT
 y_4) ≤
 maxLen ∧
 (acrossL
 (placesT
 y_4)
 y_19 =
 true →
 (y_36 =
 true →
 (y_38 =
 true →
 True ∧
 true =
 true) ∧
 (y_38 =
 false →
 false =
 true)) ∧
 (y_36 =
 false →
 false =
 true)) ∧
 (acrossL
 (placesT
 y_4)
 y_19 =
 false →
 List.length
 (placesT
 y_26) ≤
 maxLen ∧
 (y_35 =
 true →
 (y_36 =
 true →
 (y_38 =
 true →
 True ∧
 true =
 true) ∧
 (y_38 =
 false →
 false =
 true)) ∧
 (y_36 =
 false →
 false =
 true)) ∧
 (y_35 =
 false →
 List.length
 (placesT
 y_26) ≤
 maxLen ∧
 (y_34 =
 true →
 (y_36 =
 true →
 (y_38 =
 true →
 True ∧
 true =
 true) ∧
 (y_38 =
 false →
 false =
 true)) ∧
 (y_36 =
 false →
 false =
 true)) ∧
 (y_34 =
 false →
 (y_39 =
 true →
 false =
 true) ∧
 (y_39 =
 false →
 (y_38 =
 true →
 false =
 true) ∧
 (y_38 =
 false →
 (okTxt
 y_4 ∧
 smallW
 y_9 ∧
 lowT
 (topT
 (treeOf
 y_12))) ∧
 ((!isC
 y_12
 y_4) =
 true →
 false =
 true) ∧
 ((!isC
 y_12
 y_4) =
 false →
 (List.length
 y_9.snd.fst ≤
 (100000 :
 Nat) ∧
 List.length
 y_27 ≤
 (100000 :
 Nat)) ∧
 (y_30 =
 true →
 True ∧
 true =
 true) ∧
 (y_30 =
 false →
 (List.length
 (placesT
 y_4) ≤
 (100000 :
 Nat) ∧
 List.length
 (placesT
 y_26) ≤
 (100000 :
 Nat)) ∧
 (y_33 =
 true →
 True ∧
 true =
 true) ∧
 (y_33 =
 false →
 (okTxt
 y_26 ∧
 smallW
 y_31 ∧
 lowT
 (topT
 (treeOf
 y.fst))) ∧
 (y_37 =
 true →
 True ∧
 true =
 true) ∧
 (y_37 =
 false →
 false =
 true)))))))))))))))))))))))))
theorem vcEq7 : fnVC E7 Tryz.f7 (bodyOf Tryz.f7) cCreaseUpdates = vc7 := by kernel_rfl
end Go.Fr.Z16
namespace Go.Fr.Z16
open Go Go.Fr Go.Proofs
def lastE (f : Int) : List Span → Int
  | [] => f
  | x :: r => lastE x.2.1 r
def firstS (m : Int) : List Span → Int
  | [] => m
  | x :: _ => x.1
theorem spans_parts {m : Int} : (f : Int) → (A B : List Span) → Spans f m (A ++ B) → Spans f (lastE f A) A ∧ Spans (lastE f A) m B ∧ f ≤ lastE f A
  | f, [], B, h => ⟨Int.le_refl _, h, Int.le_refl _⟩
  | f, x :: A, B, h => by
    obtain ⟨h1, h2, h3⟩ := h
    obtain ⟨g1, g2, g3⟩ := spans_parts x.2.1 A B h3
    refine ⟨⟨h1, h2, g1⟩, g2, ?_⟩
    show f ≤ lastE x.2.1 A
    omega
theorem spans_first {f m : Int} {B : List Span} (h : Spans f m B) : f ≤ firstS m B ∧ firstS m B ≤ m ∧ Spans (firstS m B) m B := by
  cases B with
  | nil => exact ⟨h, Int.le_refl _, Int.le_refl _⟩
  | cons x r => exact ⟨h.1, by have := spans_le h.2.2; have := h.2.1; show x.1 ≤ m; omega, Int.le_refl _, h.2⟩
theorem row_left {m : Int} : (f : Int) → (A B : List Span) → rowK m f (A ++ B) = rowK (lastE f A) f A ++ rowK m (lastE f A) B
  | f, [], B => by
    have : rowK f f [] = [] := if_neg (by omega)
    show rowK m f B = rowK f f [] ++ rowK m f B
    rw [this, List.nil_append]
  | f, x :: A, B => by
    have ih := row_left (m := m) x.2.1 A B
    have e : lastE f (x :: A) = lastE x.2.1 A := rfl
    have er : ∀ t l, rowK t f (x :: l) = if x.1 > f then plainC (x.1 - f) :: foldC (x.2.1 - x.1) :: rowK t x.2.1 l else foldC (x.2.1 - x.1) :: rowK t x.2.1 l := fun _ _ => rfl
    rw [List.cons_append, er, er, e, ih]
    split <;> rfl
theorem row_gap {m f : Int} (B : List Span) : rowK m f B = rowK (firstS m B) f [] ++ rowK m (firstS m B) B := by
  cases B with
  | nil =>
    have : rowK m m [] = [] := if_neg (by omega)
    show rowK m f [] = rowK m f [] ++ rowK m m []
    rw [this, List.append_nil]
  | cons x r =>
    have er : ∀ f, rowK m f (x :: r) = if x.1 > f then plainC (x.1 - f) :: foldC (x.2.1 - x.1) :: rowK m x.2.1 r else foldC (x.2.1 - x.1) :: rowK m x.2.1 r := fun _ => rfl
    show rowK m f (x :: r) = rowK x.1 f [] ++ rowK m x.1 (x :: r)
    rw [er f, er x.1, if_neg (by omega : ¬ x.1 > x.1)]
    show _ = (if x.1 > f then [plainC (x.1 - f)] else []) ++ _
    split <;> rfl
theorem row_right {m f : Int} (A B : List Span) : rowK m f (A ++ B) = rowK (firstS m B) f A ++ rowK m (firstS m B) B := by
  rw [row_left, row_gap (m := m) B, ← List.append_assoc]
  congr 1
  have := row_left (m := firstS m B) f A []
  rw [List.append_nil] at this
  exact this.symm
theorem row_head {m : Int} {x : Span} {r : List Span} : rowK m x.1 (x :: r) = foldC (x.2.1 - x.1) :: rowK m x.2.1 r := if_neg (by omega)
def shiftS (g : Int) (x : Span) : Span := (x.1 + g, x.2.1 + g, ())
theorem row_shift {m g : Int} : (f : Int) → (l : List Span) → rowK (m + g) (f + g) (l.map (shiftS g)) = rowK m f l
  | f, [] => by
    show (if m + g > f + g then [plainC (m + g - (f + g))] else []) = if m > f then [plainC (m - f)] else []
    by_cases h : m > f
    · rw [if_pos h, if_pos (by omega), show m + g - (f + g) = m - f by omega]
    · rw [if_neg h, if_neg (by omega)]
  | f, x :: r => by
    have ih := row_shift (m := m) (g := g) x.2.1 r
    show (if x.1 + g > f + g then plainC (x.1 + g - (f + g)) :: foldC (x.2.1 + g - (x.1 + g)) :: rowK (m + g) (x.2.1 + g) (r.map (shiftS g)) else foldC (x.2.1 + g - (x.1 + g)) :: rowK (m + g) (x.2.1 + g) (r.map (shiftS g))) = if x.1 > f then plainC (x.1 - f) :: foldC (x.2.1 - x.1) :: rowK m x.2.1 r else foldC (x.2.1 - x.1) :: rowK m x.2.1 r
    rw [ih, show x.1 + g - (f + g) = x.1 - f by omega, show x.2.1 + g - (x.1 + g) = x.2.1 - x.1 by omega]
    by_cases h : x.1 > f
    · rw [if_pos h, if_pos (by omega)]
    · rw [if_neg h, if_neg (by omega)]
theorem lastE_le {m v : Int} : (f : Int) → (A : List Span) → f ≤ v → (∀ x ∈ A, x.2.1 ≤ v) → lastE f A ≤ v
  | f, [], h, _ => h
  | f, x :: A, _, h => lastE_le (m := m) x.2.1 A (h x (List.mem_cons_self ..)) fun y hy => h y (List.mem_cons_of_mem _ hy)
theorem firstS_ge {m v : Int} (B : List Span) (h : v ≤ m) (hb : ∀ x ∈ B, v ≤ x.1) : v ≤ firstS m B := by
  cases B with
  | nil => exact h
  | cons x r => exact hb x (List.mem_cons_self ..)
theorem acrossS_iff {x : Span} {a : Int} : acrossS x a = true ↔ x.1 < a ∧ a < x.2.1 := by
  unfold acrossS
  rw [Bool.and_eq_true, decide_eq_true_eq, decide_eq_true_eq]
theorem split_at {m v : Int} : (f : Int) → (l : List Span) → Spans f m l → (∀ x ∈ l, acrossS x v = false) → ∃ P Q, l = P ++ Q ∧ (∀ x ∈ P, x.2.1 ≤ v) ∧ (∀ x ∈ Q, v ≤ x.1)
  | f, [], _, _ => ⟨[], [], rfl, (fun x hx => by cases hx), (fun x hx => by cases hx)⟩
  | f, x :: r, h, hn => by
    obtain ⟨h1, h2, h3⟩ := h
    by_cases hx : x.2.1 ≤ v
    · obtain ⟨P, Q, e, p1, p2⟩ := split_at x.2.1 r h3 fun y hy => hn y (List.mem_cons_of_mem _ hy)
      refine ⟨x :: P, Q, by rw [e]; rfl, fun y hy => ?_, p2⟩
      rcases List.mem_cons.1 hy with e | hy
      · rw [e]; exact hx
      · exact p1 y hy
    · refine ⟨[], x :: r, rfl, (fun y hy => by cases hy), fun y hy => ?_⟩
      have nx : ¬ (x.1 < v ∧ v < x.2.1) := fun h => by
        have := hn x (List.mem_cons_self ..)
        rw [acrossS_iff.2 h] at this
        cases this
      rcases List.mem_cons.1 hy with e | hy
      · rw [e]; omega
      · have := (spans_all h3 y hy).1; omega
theorem split_two {m u v : Int} {l : List Span} (h : Spans 0 m l) (huv : u ≤ v) (hu : ∀ x ∈ l, acrossS x u = false) (hv : ∀ x ∈ l, acrossS x v = false) :
    ∃ P M Q, l = P ++ (M ++ Q) ∧ (∀ x ∈ P, x.1 < x.2.1 ∧ x.2.1 ≤ u) ∧ (∀ x ∈ M, x.1 < x.2.1 ∧ u ≤ x.1 ∧ x.2.1 ≤ v) ∧ (∀ x ∈ Q, x.1 < x.2.1 ∧ v ≤ x.1) := by
  obtain ⟨P, R, e1, p1, p2⟩ := split_at 0 l h hu
  have h' := h
  rw [e1] at h'
  have hR := (spans_parts 0 P R h').2.1
  obtain ⟨M, Q, e2, q1, q2⟩ := split_at _ R hR fun x hx => hv x (by rw [e1]; exact List.mem_append_right _ hx)
  subst e2
  have al := spans_all h
  rw [e1] at al
  refine ⟨P, M, Q, e1, fun x hx => ⟨(al x (List.mem_append_left _ hx)).2.1, p1 x hx⟩, fun x hx => ⟨(al x (List.mem_append_right _ (List.mem_append_left _ hx))).2.1, p2 x (List.mem_append_left _ hx), q1 x hx⟩, fun x hx => ⟨(al x (List.mem_append_right _ (List.mem_append_right _ hx))).2.1, q2 x hx⟩⟩
end Go.Fr.Z16
namespace Go.Fr.Z16
open Go Go.Fr Go.Proofs
theorem lastE_snoc (f : Int) (A : List Span) (x : Span) : lastE f (A ++ [x]) = x.2.1 := by
  induction A generalizing f with
  | nil => rfl
  | cons y A ih => exact ih y.2.1
theorem spans_to {f t t' : Int} : {l : List Span} → Spans f t l → t ≤ t' → Spans f t' l
  | [], h, ht => Int.le_trans h ht
  | _ :: _, h, ht => ⟨h.1, h.2.1, spans_to h.2.2 ht⟩
theorem ed_find {m : Int} {pl : List Span} {c : Wve} (h : CrOf m pl c) (hm : m ≤ 1000000) (sp : Spans 0 m pl) (hn : pl.length ≤ 1000) {v bias : Int} (h0 : 0 ≤ v) (h1 : v ≤ m) (hb : bias = 0 ∨ bias = 1) :
    (findT (treeOf c) 0 v bias).1.1 = (findC 0 v bias (rowK m 0 pl) 0 0 0).1 ∧ (findT (treeOf c) 0 v bias).1.2.1.2.1.1 = (findC 0 v bias (rowK m 0 pl) 0 0 0).2.1 := by
  obtain ⟨f1, f2, f3, f4, f5, f6, f7, f8, f9⟩ := cr_fine h hm sp hn
  have ff := find_cr h hm sp hn (.inl rfl) v bias
  rw [if_pos rfl, if_neg (by omega)] at ff
  rw [ff]
  obtain ⟨q1, q2, q3⟩ := findP_is (dim := 0) (v := v) (bias := bias) (.inl rfl) h.2.1 f2 (by omega)
  rw [h.2.2] at q1 q2
  exact ⟨q1, q2⟩
theorem at_in {m : Int} {pl : List Span} {c : Wve} (h : CrOf m pl c) {k : Nat} {A B : List Itm} {i : Itm} (e : rowK m 0 pl = A ++ i :: B) (hk : A.length = k) : atT (treeOf c) (k : Int) = (i, 0, ()) := by
  unfold atT
  rw [h.2.2, e, if_neg (by rw [List.length_append, List.length_cons]; omega), toNat_cast, getD_app_r _ (by omega), hk, Nat.sub_self]
  rfl
theorem at_out {m : Int} {pl : List Span} {c : Wve} (h : CrOf m pl c) {k : Nat} (hk : (rowK m 0 pl).length ≤ k) : atT (treeOf c) (k : Int) = (zItm, 1, ()) := by
  unfold atT
  rw [h.2.2, if_pos (by omega)]
theorem find_behind {v bias b : Int} {A B : List Itm} {i : Itm} (hf : Fine A) (hs : sum0 A = b) (h1 : reach v bias b = false) (h2 : reach v bias (b + d0 i) = true) :
    (findC 0 v bias (A ++ i :: B) 0 0 0).1 = (A.length : Int) ∧ (findC 0 v bias (A ++ i :: B) 0 0 0).2.1 = b := by
  rw [findC_pass A (i :: B) 0 0 0 hf (by rw [if_pos rfl, hs, Int.zero_add]; exact h1), hs, Int.zero_add, Int.zero_add]
  have e : ∀ c, findC 0 v bias (i :: B) (A.length : Int) b c = if reach v bias (b + d0 i) = true then ((A.length : Int), b, c) else findC 0 v bias B ((A.length : Int) + 1) (b + d0 i) (c + d1 i) := fun _ => rfl
  rw [e, if_pos h2]
  exact ⟨rfl, rfl⟩
theorem find_behind_none {v bias b : Int} {A : List Itm} (hf : Fine A) (hs : sum0 A = b) (h1 : reach v bias b = false) :
    (findC 0 v bias A 0 0 0).1 = (A.length : Int) ∧ (findC 0 v bias A 0 0 0).2.1 = b := by
  have := findC_pass (dim := 0) (v := v) (bias := bias) A [] 0 0 0 hf (by rw [if_pos rfl, hs, Int.zero_add]; exact h1)
  rw [List.append_nil, hs, Int.zero_add, Int.zero_add] at this
  rw [this]
  exact ⟨rfl, rfl⟩
theorem row_fine {m f : Int} {l : List Span} (hm : m ≤ 1000000) (h0 : 0 ≤ f) (h : Spans f m l) : Fine (rowK m f l) := crow_fine (rowK_crow (by omega) f l h0 h)
theorem ed_first {m : Int} {pl P R : List Span} {c : Wve} {old now : Span} (h : CrOf m pl c) (hm : m ≤ 1000000) (sp : Spans 0 m pl) (hn : pl.length ≤ 1000) (h0 : 0 ≤ old.1) (h1 : old.1 ≤ m) (hw : now.1 = old.1)
    (e : pl = P ++ R) (hP : ∀ x ∈ P, x.1 < x.2.1 ∧ x.2.1 ≤ old.1) (hR : ∀ x ∈ R, old.1 ≤ x.1) :
    edBad1 c old = false ∧ edFirst c old = ((rowK (lastE 0 P) 0 P).length : Int) ∧ edFrom c old now = lastE 0 P := by
  obtain ⟨q1, q2⟩ := ed_find h hm sp hn h0 h1 (.inl rfl)
  have sp' := sp
  rw [e] at sp'
  obtain ⟨sP, sR, le0⟩ := spans_parts 0 P R sp'
  have lev := lastE_le (m := m) 0 P h0 fun x hx => (hP x hx).2
  have er : rowK m 0 pl = rowK (lastE 0 P) 0 P ++ rowK m (lastE 0 P) R := by rw [e]; exact row_left 0 P R
  have len : (rowK m 0 pl).length ≤ 2001 := by have := rowK_len (t := m) 0 pl; omega
  have lenP : (rowK (lastE 0 P) 0 P).length ≤ 2001 := by rw [er, List.length_append] at len; omega
  have fP := row_fine (by omega : lastE 0 P ≤ 1000000) (Int.le_refl _) sP
  have sumP := rowK_sum0 0 P sP
  unfold edBad1 edFirst edFrom
  rw [show edA c old = (findT (treeOf c) 0 old.1 0).1 from rfl] at *
  unfold edI spanI
  rw [show edA c old = (findT (treeOf c) 0 old.1 0).1 from rfl]
  rw [q1, q2]
  by_cases hlt : lastE 0 P < old.1
  · have hs := firstS_ge R h1 hR
    have eg : rowK m (lastE 0 P) R = plainC (firstS m R - lastE 0 P) :: rowK m (firstS m R) R := by
      rw [row_gap R]
      have : rowK (firstS m R) (lastE 0 P) [] = [plainC (firstS m R - lastE 0 P)] := if_pos (by omega)
      rw [this]
      rfl
    rw [eg] at er
    have fb := find_behind (v := old.1) (bias := 0) (b := lastE 0 P) (i := plainC (firstS m R - lastE 0 P)) (B := rowK m (firstS m R) R) fP (by omega) (reach_no (by omega) (by omega)) (by
      show reach old.1 0 (lastE 0 P + (firstS m R - lastE 0 P)) = true
      by_cases hh : firstS m R > old.1
      · exact reach_gt (by omega)
      · exact reach_eq rfl (by omega))
    rw [← er] at fb
    rw [fb.1, fb.2, at_in h er rfl]
    exact ⟨rfl, rfl, rfl⟩
  · have hv : lastE 0 P = old.1 := by omega
    rcases List.eq_nil_or_concat P with rfl | ⟨P', x, rfl⟩
    · have hv : (0 : Int) = old.1 := hv
      have e0 : rowK (lastE 0 []) 0 [] = [] := rfl
      rw [e0]
      cases hr : rowK m 0 pl with
      | nil =>
        have fb : findC 0 old.1 0 ([] : List Itm) 0 0 0 = (0, 0, 0) := rfl
        rw [fb]
        have ao := at_out h (k := 0) (by rw [hr]; exact Nat.le_refl _)
        have ao : atT (treeOf c) 0 = (zItm, 1, ()) := ao
        simp only
        rw [ao]
        exact ⟨rfl, rfl, hw.trans hv.symm⟩
      | cons i r =>
        have cr := rowK_crow (by omega : m ≤ 1099511627776) 0 pl (Int.le_refl _) sp
        rw [hr] at cr
        have oi := (crow_cons cr).1
        have fb := find_behind (v := old.1) (bias := 0) (b := 0) (i := i) (B := r) (A := []) (fun x hx => by cases hx) rfl
        have fb2 : findC 0 old.1 0 (i :: r) 0 0 0 = (0, 0, 0) := by
          show (if reach old.1 0 (0 + d0 i) = true then _ else _) = _
          rw [if_pos]
          refine reach_gt ?_
          rcases oi with o | o
          · omega
          · omega
        rw [fb2]
        have ai : atT (treeOf c) 0 = (i, 0, ()) := at_in h (k := 0) (A := []) (B := r) hr rfl
        simp only
        rw [ai]
        rcases oi with o | o
        · simp only [o.1]
          exact ⟨rfl, rfl, rfl⟩
        · have d0i : i.2.2.1.1 = d0 i := rfl
          simp only [o.1, d0i]
          rw [w64_id (n := 0 + d0 i) (by omega) (by omega)]
          have na : acrossS (0, 0 + d0 i, ()) old.1 = false := by
            unfold acrossS
            simp
            omega
          rw [na]
          refine ⟨rfl, ?_, ?_⟩
          · rw [if_pos trivial, if_neg (by decide), if_neg (by show ¬ (0 + d0 i = old.1); omega)]
            rfl
          · rw [if_neg (by simp)]
            exact hw.trans hv.symm
    · rw [List.concat_eq_append] at *
      rw [lastE_snoc] at *
      have hx := hP x (by simp)
      have ex : pl = P' ++ (x :: R) := by rw [e, List.append_assoc]; rfl
      have spx := sp
      rw [ex] at spx
      obtain ⟨sP', sx, le'⟩ := spans_parts 0 P' _ spx
      have spP := spans_to sP' (spans_first sx).1
      have lx : firstS m (x :: R) = x.1 := rfl
      rw [lx] at spP
      have er2 : rowK m 0 pl = rowK x.1 0 P' ++ foldC (x.2.1 - x.1) :: rowK m x.2.1 R := by
        rw [ex, row_right, lx, row_head]
      have el : rowK x.2.1 0 (P' ++ [x]) = rowK x.1 0 P' ++ [foldC (x.2.1 - x.1)] := by
        rw [row_right, show firstS x.2.1 [x] = x.1 from rfl, row_head]
        have : rowK x.2.1 x.2.1 [] = [] := if_neg (by omega)
        rw [this]
      have x0 := spans_le spP
      have fP' := row_fine (by omega : x.1 ≤ 1000000) (Int.le_refl _) spP
      have sumP' := rowK_sum0 0 P' spP
      have fb := find_behind (v := old.1) (bias := 0) (b := x.1) (i := foldC (x.2.1 - x.1)) (B := rowK m x.2.1 R) fP' (by omega) (reach_no (by omega) (by omega)) (reach_eq rfl (by show x.1 + (x.2.1 - x.1) = old.1; omega))
      rw [← er2] at fb
      have l2 : (rowK x.1 0 P').length ≤ 2001 := by rw [er2, List.length_append] at len; omega
      rw [fb.1, fb.2, at_in h er2 rfl]
      have dd : (foldC (x.2.1 - x.1)).2.2.1.1 = x.2.1 - x.1 := rfl
      simp only [dd, show (foldC (x.2.1 - x.1)).1 = 1 from rfl]
      rw [w64_id (n := x.1 + (x.2.1 - x.1)) (by omega) (by omega)]
      have na : acrossS (x.1, x.1 + (x.2.1 - x.1), ()) old.1 = false := by
        unfold acrossS
        simp
        omega
      rw [na]
      refine ⟨rfl, ?_, ?_⟩
      · rw [if_pos trivial, if_neg (by decide), if_pos (by show x.1 + (x.2.1 - x.1) = old.1; omega), el, w64_id (by omega) (by omega), List.length_append]
        rfl
      · rw [if_neg (by simp)]
        omega
theorem ed_last {m : Int} {pl G Q : List Span} {c : Wve} {old now : Span} {g : Int} (h : CrOf m pl c) (hm : m ≤ 1000000) (sp : Spans 0 m pl) (hn : pl.length ≤ 1000) (h0 : 0 ≤ old.2.1) (h1 : old.2.1 ≤ m) (hw : now.2.1 = old.2.1 + g) (hg : -1000000 ≤ g ∧ g ≤ 1000000)
    (e : pl = G ++ Q) (hG : ∀ x ∈ G, x.1 < x.2.1 ∧ x.2.1 ≤ old.2.1) (hQ : ∀ x ∈ Q, old.2.1 ≤ x.1) :
    edBad2 c old = false ∧ edLast c old = ((rowK (firstS m Q) 0 G).length : Int) ∧ edTo c old now = firstS m Q + g := by
  obtain ⟨q1, q2⟩ := ed_find h hm sp hn h0 h1 (.inr rfl)
  have sp' := sp
  rw [e] at sp'
  obtain ⟨sG, sQ, le0⟩ := spans_parts 0 G Q sp'
  have lev := lastE_le (m := m) 0 G h0 fun x hx => (hG x hx).2
  obtain ⟨f1, f2, f3⟩ := spans_first sQ
  have hs := firstS_ge Q h1 hQ
  have er : rowK m 0 pl = rowK (firstS m Q) 0 G ++ rowK m (firstS m Q) Q := by rw [e]; exact row_right G Q
  have len : (rowK m 0 pl).length ≤ 2001 := by have := rowK_len (t := m) 0 pl; omega
  have lenG : (rowK (firstS m Q) 0 G).length ≤ 2001 := by rw [er, List.length_append] at len; omega
  have sG2 := spans_to sG f1
  have fG := row_fine (by omega : firstS m Q ≤ 1000000) (Int.le_refl _) sG2
  have sumG := rowK_sum0 0 G sG2
  unfold edBad2 edLast edTo edJ spanI
  rw [show edB c old = (findT (treeOf c) 0 old.2.1 1).1 from rfl]
  rw [q1, q2]
  by_cases hlt : old.2.1 < firstS m Q
  · have eG : rowK (firstS m Q) 0 G = rowK (lastE 0 G) 0 G ++ [plainC (firstS m Q - lastE 0 G)] := by
      have := row_left (m := firstS m Q) 0 G []
      rw [List.append_nil] at this
      rw [this]
      have : rowK (firstS m Q) (lastE 0 G) [] = [plainC (firstS m Q - lastE 0 G)] := if_pos (by omega)
      rw [this]
    have er2 : rowK m 0 pl = rowK (lastE 0 G) 0 G ++ plainC (firstS m Q - lastE 0 G) :: rowK m (firstS m Q) Q := by
      rw [er, eG, List.append_assoc]
      rfl
    have fL := row_fine (by omega : lastE 0 G ≤ 1000000) (Int.le_refl _) sG
    have sumL := rowK_sum0 0 G sG
    have fb := find_behind (v := old.2.1) (bias := 1) (b := lastE 0 G) (i := plainC (firstS m Q - lastE 0 G)) (B := rowK m (firstS m Q) Q) fL (by omega) (reach_no (by omega) (by omega)) (reach_gt (by show lastE 0 G + (firstS m Q - lastE 0 G) > old.2.1; omega))
    rw [← er2] at fb
    have l2 : (rowK (lastE 0 G) 0 G).length ≤ 2001 := by rw [er2, List.length_append] at len; omega
    rw [fb.1, fb.2, at_in h er2 rfl]
    have dd : (plainC (firstS m Q - lastE 0 G)).2.2.1.1 = firstS m Q - lastE 0 G := rfl
    simp only [dd, show (plainC (firstS m Q - lastE 0 G)).1 = 0 from rfl]
    rw [w64_id (n := lastE 0 G + (firstS m Q - lastE 0 G)) (by omega) (by omega), w64_id (n := lastE 0 G + (firstS m Q - lastE 0 G) - old.2.1) (by omega) (by omega)]
    refine ⟨rfl, ?_, ?_⟩
    · rw [if_pos ⟨trivial, trivial⟩, eG, w64_id (by omega) (by omega), List.length_append]
      rfl
    · rw [if_pos ⟨trivial, trivial⟩, w64_id (by omega) (by omega)]
      omega
  · have hv : firstS m Q = old.2.1 := by omega
    cases Q with
    | nil =>
      have eq : rowK m (firstS m []) [] = [] := if_neg (by show ¬ m > m; omega)
      rw [eq, List.append_nil] at er
      have fb := find_behind_none (v := old.2.1) (bias := 1) (b := firstS m []) fG (by omega) (reach_no (by omega) (by omega))
      rw [← er] at fb
      rw [fb.1, fb.2, at_out h (Nat.le_refl _), er]
      refine ⟨rfl, rfl, ?_⟩
      show now.2.1 = _
      omega
    | cons x r =>
      have hx : x.1 = old.2.1 := hv
      have sx := sQ.2.1
      rw [show firstS m (x :: r) = x.1 from rfl] at *
      rw [row_head] at er
      have fb := find_behind (v := old.2.1) (bias := 1) (b := x.1) (i := foldC (x.2.1 - x.1)) (B := rowK m x.2.1 r) fG (by omega) (reach_no (by omega) (by omega)) (reach_gt (by show x.1 + (x.2.1 - x.1) > old.2.1; omega))
      rw [← er] at fb
      rw [fb.1, fb.2, at_in h er rfl]
      have dd : (foldC (x.2.1 - x.1)).2.2.1.1 = x.2.1 - x.1 := rfl
      have sxm := spans_le sQ.2.2
      simp only [dd, show (foldC (x.2.1 - x.1)).1 = 1 from rfl]
      rw [w64_id (n := x.1 + (x.2.1 - x.1)) (by omega) (by omega)]
      have na : acrossS (x.1, x.1 + (x.2.1 - x.1), ()) old.2.1 = false := by
        unfold acrossS
        simp
        omega
      rw [na]
      refine ⟨rfl, ?_, ?_⟩
      · rw [if_neg (by simp)]
      · rw [if_neg (by simp)]
        omega
theorem ed_bad {m v bias : Int} {pl : List Span} {c : Wve} {x : Span} (h : CrOf m pl c) (hm : m ≤ 1000000) (sp : Spans 0 m pl) (hn : pl.length ≤ 1000) (h0 : 0 ≤ v) (h1 : v ≤ m) (hb : bias = 0 ∨ bias = 1) (hx : x ∈ pl) (ha : acrossS x v = true) :
    (decide ((atT (treeOf c) (findT (treeOf c) 0 v bias).1.1).2.1 = 0) && (!decide ((atT (treeOf c) (findT (treeOf c) 0 v bias).1.1).1.1 = 0) && acrossS (spanI (findT (treeOf c) 0 v bias).1 (atT (treeOf c) (findT (treeOf c) 0 v bias).1.1).1) v)) = true := by
  obtain ⟨q1, q2⟩ := ed_find h hm sp hn h0 h1 hb
  obtain ⟨a1, a2⟩ := acrossS_iff.1 ha
  obtain ⟨A, B, e⟩ := List.append_of_mem hx
  have sp' := sp
  rw [e] at sp'
  obtain ⟨sA, sB, le0⟩ := spans_parts 0 A _ sp'
  have sA2 := spans_to sA (spans_first sB).1
  rw [show firstS m (x :: B) = x.1 from rfl] at sA2
  have er : rowK m 0 pl = rowK x.1 0 A ++ foldC (x.2.1 - x.1) :: rowK m x.2.1 B := by
    rw [e, row_right, show firstS m (x :: B) = x.1 from rfl, row_head]
  have fA := row_fine (by omega : x.1 ≤ 1000000) (Int.le_refl _) sA2
  have sumA := rowK_sum0 0 A sA2
  have x0 := spans_le sA2
  have xm := spans_le sB.2.2
  have fb := find_behind (v := v) (bias := bias) (b := x.1) (i := foldC (x.2.1 - x.1)) (B := rowK m x.2.1 B) fA (by omega) (reach_no (by omega) (by omega)) (reach_gt (by show x.1 + (x.2.1 - x.1) > v; omega))
  rw [← er] at fb
  unfold spanI
  rw [q1, q2, fb.1, fb.2, at_in h er rfl]
  have dd : (foldC (x.2.1 - x.1)).2.2.1.1 = x.2.1 - x.1 := rfl
  simp only [dd, show (foldC (x.2.1 - x.1)).1 = 1 from rfl]
  rw [w64_id (n := x.1 + (x.2.1 - x.1)) (by omega) (by omega)]
  have na : acrossS (x.1, x.1 + (x.2.1 - x.1), ()) v = true := by
    rw [acrossS_iff]
    simp only
    omega
  rw [na]
  rfl
end Go.Fr.Z16
