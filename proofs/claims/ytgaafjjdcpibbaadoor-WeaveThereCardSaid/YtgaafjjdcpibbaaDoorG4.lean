/-
  Texts on which the proofs of the seat's statements stand: a symbolic walk, its soundness, the functions' conditions and their proofs (4). Conditions: none.
-/
import Derived.Test.YtgaafjjdcpibbaaDoorG3
import Derived.Sort.Row
import Derived.Sort.Grow
import Derived.Shelf.SlSortCmp.Insertion
namespace Go.Fr.C14
open Go Go.Fr Go.Proofs
set_option maxRecDepth 100000
def hs10 : List (Nat × Nat × Hint) := [(0, 7, ⟨[.rowS 5 900000005 t57 57, .slot 26 t3], [0, 1, 4, 24, 25], [4], []⟩),
  (0, 16, ⟨[.rowS 9 900000009 t57 57, .slot 10 t4, .slot 48 t3], [0, 1, 4, 7, 24, 25, 26, 46, 47], [4, 7], [900000005]⟩)]
def nm10 : List Nat := [3000000024]
noncomputable def E10 : Env := env tab [(26, cRefWrong), (28, cRDecode), (27, cREncode), (29, cAhead)] [] gl hs10 nm10
def vc10 : Prop :=
 ∀ (x : Int × List Inl × Unit),
 let y := x.snd.fst;
 let y_1 := x.fst;
 let y_2 := (↑(List.length y) : Int);
 let y_3 := newW y_1 y;
 List.length y ≤ maxLen ∧ shortL y →
 (decide (y_1 < (0 : Int)) = true → ((0 : Int), [], (1 : Int), ()) = y_3) ∧
 (decide (y_1 < (0 : Int)) = false →
 (decide (y_1 > (1099511627776 : Int)) = true → ((0 : Int), [], (1 : Int), ()) = y_3) ∧
 (decide (y_1 > (1099511627776 : Int)) = false →
 (decide (y_2 > (60 : Int)) = true → ((0 : Int), [], (5 : Int), ()) = y_3) ∧
 (decide (y_2 > (60 : Int)) = false →
 (((0 : Int) = (0 : Int) ∧ True ∧ y_1 = y_1 ∧ y = y ∧ True ∧ y = y ∧ y_2 = y_2) ∧
 ((0 : Int) = (0 : Int) ∧
 Value.slice none (0 : Nat) (0 : Nat) = Value.slice none (0 : Nat) (0 : Nat) ∧
 (0 : Int) = (0 : Int)) ∧
 True ∧ True) ∧
 ∃ (Z : List Inl × Int × Unit → Prop),
 ∃ (μ : List Inl × Int × Unit → Nat),
 Z ([], (0 : Int), ()) ∧
 ∀ (a : List Inl),
 let y_4 := (↑(List.length a) : Int);
 ∀ (a_1 : Int),
 let y_5 :=  ((List.getD y (Int.toNat a_1) (Ty.dflt t57)).fst,  (List.getD y (Int.toNat a_1) (Ty.dflt t57)).snd.fst,  (List.getD y (Int.toNat a_1) (Ty.dflt t57)).snd.snd.fst,  (List.getD y (Int.toNat a_1) (Ty.dflt t57)).snd.snd.snd.fst,  encode (decodeL (List.getD y (Int.toNat a_1) (Ty.dflt t57)).snd.snd.snd.snd.fst), ());
 let y_6 := (List.getD y (Int.toNat a_1) (Ty.dflt t57)).snd.snd;
 let y_7 := (List.getD y (Int.toNat a_1) (Ty.dflt t57)).snd.fst;
 let y_8 := (List.getD y (Int.toNat a_1) (Ty.dflt t57)).fst;
 let y_9 := IntKind.wrap IntKind.i64 (a_1 + (1 : Int));
 let y_10 := (a, a_1, ());
 let y_11 :=  wrongW y_1 (List.take (Int.toNat a_1) y) (List.getD y (Int.toNat a_1) (Ty.dflt t57));
 let y_12 := (y_9, ());
 let y_13 := y_6.snd.snd.fst;
 let y_14 := y_6.snd.fst;
 let y_15 := y_6.fst;
 let y_16 := [y_5];
 Z y_10 →
 (decide (a_1 < y_2) = true →
 ((0 : Int) ≤ a_1 ∧ a_1 < y_2) ∧
 ((0 : Int) ≤ a_1 ∧ a_1 ≤ y_2) ∧
 (List.length (List.take (Int.toNat a_1) y) ≤ maxLen ∧
 ByteArray.size (txt (List.getD y (Int.toNat a_1) (Ty.dflt t57))) ≤
 (1000000000 : Nat)) ∧
 ((y_11 != (0 : Int)) = true → ((0 : Int), [], y_11, ()) = y_3) ∧
 ((y_11 != (0 : Int)) = false →
 ByteArray.size y_13 ≤ (1000000000 : Nat) ∧
 List.length (decodeL y_13) ≤ (1000000000 : Nat) ∧
 (((0 : Int) = (0 : Int) ∧
 false = false ∧
 True ∧
 y_1 = y_1 ∧
 y = y ∧
 True ∧
 True ∧
 y = y ∧ y_2 = y_2 ∧ a_1 = a_1 ∧ True ∧ y_4 = y_4) ∧
 (((0 : Int) = (0 : Int) ∧
 Value.slice none (0 : Nat) (0 : Nat) =
 Value.slice none (0 : Nat) (0 : Nat) ∧
 (0 : Int) = (0 : Int)) ∧
 y_8 = y_8 ∧
 y_7 = y_7 ∧
 y_15 = y_15 ∧
 y_14 = y_14 ∧
 encode (decodeL y_13) = encode (decodeL y_13)) ∧
 True ∧ a = a ∧ True) ∧
 ∃ (Z_1 :
 List Inl ×
 Bool × Int × Unit →
 Prop),
 ∃ (μ_1 :
 List Inl ×
 Bool × Int × Unit →
 Nat),
 Z_1 ([], false, (0 : Int), ()) ∧
 ∀ (a_5 : List Inl),
 let y_17 := a_5 ++ y_16;
 let y_18 := List.length a_5 + List.length y_16;
 let y_19 := (a_5, y_12);
 let y_20 := (y_17, y_12);
 ∀ (a_6 : Bool) (a_7 : Int),
 let y_21 :=  (a_5 ++ [List.getD a (Int.toNat a_7) (Ty.dflt t57)], a_6,  IntKind.wrap IntKind.i64 (a_7 + (1 : Int)), ());
 let y_22 := (a_5, a_6, a_7, ());
 let y_23 := [List.getD a (Int.toNat a_7) (Ty.dflt t57)];
 let y_24 := IntKind.wrap IntKind.i64 (a_7 + (1 : Int));
 let y_25 := (y_17 ++ y_23, true, y_24, ());
 let y_26 := a_5 ++ y_23;
 let y_27 := List.length a_5 + List.length y_23;
 Z_1 y_22 →
 (decide (a_7 < y_4) = true →
 ((0 : Int) ≤ a_7 ∧ a_7 < y_4) ∧
 ((!a_6) = true →
 True ∧
 (aheadI y_5
 (List.getD a (Int.toNat a_7)
 (Ty.dflt t57)) =
 true →
 y_18 * (48 : Nat) ≤
 (140737488355328 : Nat) ∧
 y_18 ≤ maxLen ∧
 (List.length y_17 +
 List.length y_23) *
 (48 : Nat) ≤
 (140737488355328 : Nat) ∧
 List.length y_17 +
 List.length y_23 ≤
 maxLen ∧
 ((y_24 = y_24 ∧
 true = true ∧
 True ∧
 y_1 = y_1 ∧
 y = y ∧
 True ∧
 True ∧
 y = y ∧
 y_2 = y_2 ∧
 a_1 = a_1 ∧
 True ∧
 y_4 =
 y_4) ∧
 (((0 : Int) = (0 : Int) ∧
 Value.slice none
 (0 : Nat)
 (0 : Nat) =
 Value.slice none
 (0 : Nat)
 (0 : Nat) ∧
 (0 : Int) =
 (0 : Int)) ∧
 y_8 = y_8 ∧
 y_7 = y_7 ∧
 y_15 = y_15 ∧
 y_14 = y_14 ∧
 encode
 (decodeL
 y_13) =
 encode
 (decodeL
 y_13)) ∧
 y_17 ++ y_23 =
 y_17 ++ y_23 ∧
 a = a ∧ True) ∧
 Z_1 y_25 ∧
 μ_1 y_25 < μ_1 y_22) ∧
 (aheadI y_5
 (List.getD a (Int.toNat a_7)
 (Ty.dflt t57)) =
 false →
 y_27 * (48 : Nat) ≤
 (140737488355328 : Nat) ∧
 y_27 ≤ maxLen ∧
 ((y_24 = y_24 ∧
 a_6 = a_6 ∧
 True ∧
 y_1 = y_1 ∧
 y = y ∧
 True ∧
 True ∧
 y = y ∧
 y_2 = y_2 ∧
 a_1 = a_1 ∧
 True ∧
 y_4 = y_4) ∧
 (((0 : Int) = (0 : Int) ∧
 Value.slice none (0 : Nat)
 (0 : Nat) =
 Value.slice none
 (0 : Nat) (0 : Nat) ∧
 (0 : Int) = (0 : Int)) ∧
 y_8 = y_8 ∧
 y_7 = y_7 ∧
 y_15 = y_15 ∧
 y_14 = y_14 ∧
 encode
 (decodeL y_13) =
 encode
 (decodeL y_13)) ∧
 y_26 = y_26 ∧ a = a ∧ True) ∧
 Z_1 y_21 ∧ μ_1 y_21 < μ_1 y_22)) ∧
 ((!a_6) = false →
 y_27 * (48 : Nat) ≤ (140737488355328 : Nat) ∧
 y_27 ≤ maxLen ∧
 ((y_24 = y_24 ∧
 a_6 = a_6 ∧
 True ∧
 y_1 = y_1 ∧
 y = y ∧
 True ∧
 True ∧
 y = y ∧
 y_2 = y_2 ∧
 a_1 = a_1 ∧
 True ∧ y_4 = y_4) ∧
 (((0 : Int) = (0 : Int) ∧
 Value.slice none (0 : Nat)
 (0 : Nat) =
 Value.slice none (0 : Nat)
 (0 : Nat) ∧
 (0 : Int) = (0 : Int)) ∧
 y_8 = y_8 ∧
 y_7 = y_7 ∧
 y_15 = y_15 ∧
 y_14 = y_14 ∧
 encode (decodeL y_13) =
 encode (decodeL y_13)) ∧
 y_26 = y_26 ∧ a = a ∧ True) ∧
 Z_1 y_21 ∧ μ_1 y_21 < μ_1 y_22)) ∧
 (decide (a_7 < y_4) = false →
 ((!a_6) = true →
 y_18 * (48 : Nat) ≤ (140737488355328 : Nat) ∧
 y_18 ≤ maxLen ∧
 ((y_9 = y_9 ∧
 True ∧
 y_1 = y_1 ∧
 y = y ∧ True ∧ y = y ∧ y_2 = y_2) ∧
 ((0 : Int) = (0 : Int) ∧
 Value.slice none (0 : Nat) (0 : Nat) =
 Value.slice none (0 : Nat)
 (0 : Nat) ∧
 (0 : Int) = (0 : Int)) ∧
 y_17 = y_17 ∧ True) ∧
 Z y_20 ∧ μ y_20 < μ y_10) ∧
 ((!a_6) = false →
 ((y_9 = y_9 ∧
 True ∧
 y_1 = y_1 ∧
 y = y ∧ True ∧ y = y ∧ y_2 = y_2) ∧
 ((0 : Int) = (0 : Int) ∧
 Value.slice none (0 : Nat) (0 : Nat) =
 Value.slice none (0 : Nat) (0 : Nat) ∧
 (0 : Int) = (0 : Int)) ∧
 a_5 = a_5 ∧ True) ∧
 Z y_19 ∧ μ y_19 < μ y_10)))) ∧
 (decide (a_1 < y_2) = false → (y_1, a, (0 : Int), ()) = y_3))))
theorem vcEq10 : fnVC E10 Tryd.f10 (bodyOf Tryd.f10) cRefNew = vc10 := by kernel_rfl
def hs22 : List (Nat × Nat × Hint) := []
def nm22 : List Nat := [3000000024]
noncomputable def E22 : Env := env tab [(47, cCount), (48, cContains)] [] gl hs22 nm22
def vc22 : Prop :=
 ∀ (x : Int × Inl × Unit),
 let y := x.snd.fst.snd.snd.snd.snd.fst;
 let y_1 := x.snd.fst;
 let y_2 := y_1.snd.fst;
 let y_3 := y_1.snd.snd.fst;
 let y_4 := wrongI x.fst y_1;
 let y_5 := decide (y_1.fst < (1 : Int));
 let y_6 := decide (y_2 > x.fst);
 let y_7 := decide ((↑(List.length (decodeL y)) : Int) > (40 : Int));
 let y_8 := ByteArray.toList y == ByteArray.toList (ByteArray.mk #[]);
 ByteArray.size (txt y_1) ≤ maxLen →
 (y_5 = true → (1 : Int) = y_4) ∧
 (y_5 = false →
 (decide (y_2 < (0 : Int)) = true → (1 : Int) = y_4) ∧
 (decide (y_2 < (0 : Int)) = false →
 (y_6 = true → (1 : Int) = y_4) ∧
 (y_6 = false →
 ((y_3 != (0 : Int)) = true →
 ((y_3 != (1 : Int)) = true → (1 : Int) = y_4) ∧
 ((y_3 != (1 : Int)) = false →
 ByteArray.size y ≤ maxLen ∧
 (y_7 = true → (2 : Int) = y_4) ∧
 (y_7 = false →
 (y_8 = true → (4 : Int) = y_4) ∧
 (y_8 = false →
 (ByteArray.mk #[(10 : UInt8)]) = (ByteArray.mk #[(10 : UInt8)]) ∧
 (hasNL y = true → (4 : Int) = y_4) ∧ (hasNL y = false → (0 : Int) = y_4))))) ∧
 ((y_3 != (0 : Int)) = false →
 ByteArray.size y ≤ maxLen ∧
 (y_7 = true → (2 : Int) = y_4) ∧
 (y_7 = false →
 (y_8 = true → (4 : Int) = y_4) ∧
 (y_8 = false →
 (ByteArray.mk #[(10 : UInt8)]) = (ByteArray.mk #[(10 : UInt8)]) ∧
 (hasNL y = true → (4 : Int) = y_4) ∧ (hasNL y = false → (0 : Int) = y_4)))))))
theorem vcEq22 : fnVC E22 Tryd.f22 (bodyOf Tryd.f22) cWrong = vc22 := by kernel_rfl
def hs23 : List (Nat × Nat × Hint) := []
def nm23 : List Nat := [3000000024]
noncomputable def E23 : Env := env tab [(50, cDecode), (49, cEncode)] [] gl hs23 nm23
def vc23 : Prop :=
 ∀ (x : ByteArray × Unit),
 ByteArray.size x.fst ≤ (100000000 : Nat) →
 ByteArray.size x.fst ≤ (1000000000 : Nat) ∧
 List.length (decodeL x.fst) ≤ (1000000000 : Nat) ∧ encode (decodeL x.fst) = clean x.fst
theorem vcEq23 : fnVC E23 Tryd.f23 (bodyOf Tryd.f23) cClean = vc23 := by kernel_rfl
def hs25 : List (Nat × Nat × Hint) := []
def nm25 : List Nat := [3000000024]
noncomputable def E25 : Env := env tab [(54, cCmp), (53, cOr)] [] gl hs25 nm25
def vc25 : Prop :=
 ∀ (x : Inl × Inl × Unit),
 True →
 True ∧
 True ∧
 True ∧
 List.length
 [cmpI x.fst.snd.fst x.snd.fst.snd.fst, cmpI x.fst.snd.snd.snd.fst x.snd.fst.snd.snd.snd.fst,
 cmpI x.fst.fst x.snd.fst.fst] ≤
 maxLen ∧
 firstNZ
 [cmpI x.fst.snd.fst x.snd.fst.snd.fst, cmpI x.fst.snd.snd.snd.fst x.snd.fst.snd.snd.snd.fst,
 cmpI x.fst.fst x.snd.fst.fst] =
 cmpL x.fst x.snd.fst
theorem vcEq25 : fnVC E25 Tryd.f25 (bodyOf Tryd.f25) cOrder = vc25 := by kernel_rfl
def hs26 : List (Nat × Nat × Hint) := [(0, 9, ⟨[.slot 47 t3], [1, 5, 45, 46], [5], []⟩),
  (0, 15, ⟨[.slot 56 t3], [5, 54, 55], [5], []⟩)]
def nm26 : List Nat := [3000000024]
noncomputable def E26 : Env := env tab [(28, cRDecode)] [] gl hs26 nm26
def vc26 : Prop :=
 ∀ (x : Int × List Inl × Inl × Unit),
 let y := x.snd.snd.fst.snd.snd;
 let y_1 := x.snd.snd.fst;
 let y_2 := x.snd.fst;
 let y_3 := (↑(List.length y_2) : Int);
 let y_4 := y_1.snd.fst;
 let y_5 := wrongW x.fst y_2 y_1;
 let y_6 := y_1.fst;
 let y_7 := decide (y_4 > x.fst);
 let y_8 := y.snd.snd.fst;
 let y_9 := y.snd.fst;
 let y := y.fst;
 let y_10 := (↑(List.length (decodeL y_8)) : Int);
 let y_11 := decide (y_10 > (40 : Int));
 let y_12 := y_10 == (0 : Int);
 List.length y_2 ≤ maxLen ∧ ByteArray.size (txt y_1) ≤ (1000000000 : Nat) →
 (decide (y_6 < (1 : Int)) = true → (1 : Int) = y_5) ∧
 (decide (y_6 < (1 : Int)) = false →
 (decide (y_4 < (0 : Int)) = true → (1 : Int) = y_5) ∧
 (decide (y_4 < (0 : Int)) = false →
 (y_7 = true → (1 : Int) = y_5) ∧
 (y_7 = false →
 ((y != (0 : Int)) = true →
 ((y != (1 : Int)) = true → (1 : Int) = y_5) ∧
 ((y != (1 : Int)) = false →
 ByteArray.size y_8 ≤ (1000000000 : Nat) ∧
 (y_11 = true → (2 : Int) = y_5) ∧
 (y_11 = false →
 (y_12 = true → (4 : Int) = y_5) ∧
 (y_12 = false →
 (((0 : Int) = (0 : Int) ∧
 y_2 = y_2 ∧ True ∧ decodeL y_8 = decodeL y_8 ∧ y_10 = y_10) ∧
 y_6 = y_6 ∧ y_4 = y_4 ∧ y = y ∧ y_9 = y_9 ∧ y_8 = y_8) ∧
 ∃ (Z : Int × Unit → Prop),
 ∃ (μ : Int × Unit → Nat),
 Z ((0 : Int), ()) ∧
 ∀ (a : Int),
 let y_13 := IntKind.wrap IntKind.i64 (a + (1 : Int));
 Z (a, ()) →
 (decide (a < y_10) = true →
 ((0 : Int) ≤ a ∧ a < y_10) ∧
 ((List.getD (decodeL y_8) (Int.toNat a) (Ty.dflt t21) ==
 (10 : Int)) =
 true →
 (4 : Int) = y_5) ∧
 ((List.getD (decodeL y_8) (Int.toNat a) (Ty.dflt t21) ==
 (10 : Int)) =
 false →
 ((y_13 = y_13 ∧
 y_2 = y_2 ∧
 True ∧ decodeL y_8 = decodeL y_8 ∧ y_10 = y_10) ∧
 y_6 = y_6 ∧ y_4 = y_4 ∧ y = y ∧ y_9 = y_9 ∧ y_8 = y_8) ∧
 Z (y_13, ()) ∧ μ (y_13, ()) < μ (a, ()))) ∧
 (decide (a < y_10) = false →
 (((0 : Int) = (0 : Int) ∧ True ∧ y_2 = y_2 ∧ y_3 = y_3) ∧
 y_6 = y_6 ∧ y_4 = y_4 ∧ y = y ∧ y_9 = y_9 ∧ y_8 = y_8) ∧
 ∃ (Z : Int × Unit → Prop),
 ∃ (μ : Int × Unit → Nat),
 Z ((0 : Int), ()) ∧
 ∀ (a : Int),
 let y_14 := IntKind.wrap IntKind.i64 (a + (1 : Int));
 let y_15 :=  (List.getD y_2 (Int.toNat a) (Ty.dflt t57)).fst == y_6;
 Z (a, ()) →
 (decide (a < y_3) = true →
 ((0 : Int) ≤ a ∧ a < y_3) ∧
 (y_15 = true → (8 : Int) = y_5) ∧
 (y_15 = false →
 ((y_14 = y_14 ∧ True ∧ y_2 = y_2 ∧ y_3 = y_3) ∧
 y_6 = y_6 ∧
 y_4 = y_4 ∧
 y = y ∧ y_9 = y_9 ∧ y_8 = y_8) ∧
 Z (y_14, ()) ∧ μ (y_14, ()) < μ (a, ()))) ∧
 (decide (a < y_3) = false → (0 : Int) = y_5)))))) ∧
 ((y != (0 : Int)) = false →
 ByteArray.size y_8 ≤ (1000000000 : Nat) ∧
 (y_11 = true → (2 : Int) = y_5) ∧
 (y_11 = false →
 (y_12 = true → (4 : Int) = y_5) ∧
 (y_12 = false →
 (((0 : Int) = (0 : Int) ∧ y_2 = y_2 ∧ True ∧ decodeL y_8 = decodeL y_8 ∧ y_10 = y_10) ∧
 y_6 = y_6 ∧ y_4 = y_4 ∧ y = y ∧ y_9 = y_9 ∧ y_8 = y_8) ∧
 ∃ (Z : Int × Unit → Prop),
 ∃ (μ : Int × Unit → Nat),
 Z ((0 : Int), ()) ∧
 ∀ (a : Int),
 let y_13 := IntKind.wrap IntKind.i64 (a + (1 : Int));
 Z (a, ()) →
 (decide (a < y_10) = true →
 ((0 : Int) ≤ a ∧ a < y_10) ∧
 ((List.getD (decodeL y_8) (Int.toNat a) (Ty.dflt t21) == (10 : Int)) =
 true →
 (4 : Int) = y_5) ∧
 ((List.getD (decodeL y_8) (Int.toNat a) (Ty.dflt t21) == (10 : Int)) =
 false →
 ((y_13 = y_13 ∧
 y_2 = y_2 ∧ True ∧ decodeL y_8 = decodeL y_8 ∧ y_10 = y_10) ∧
 y_6 = y_6 ∧ y_4 = y_4 ∧ y = y ∧ y_9 = y_9 ∧ y_8 = y_8) ∧
 Z (y_13, ()) ∧ μ (y_13, ()) < μ (a, ()))) ∧
 (decide (a < y_10) = false →
 (((0 : Int) = (0 : Int) ∧ True ∧ y_2 = y_2 ∧ y_3 = y_3) ∧
 y_6 = y_6 ∧ y_4 = y_4 ∧ y = y ∧ y_9 = y_9 ∧ y_8 = y_8) ∧
 ∃ (Z : Int × Unit → Prop),
 ∃ (μ : Int × Unit → Nat),
 Z ((0 : Int), ()) ∧
 ∀ (a : Int),
 let y_14 := IntKind.wrap IntKind.i64 (a + (1 : Int));
 let y_15 :=  (List.getD y_2 (Int.toNat a) (Ty.dflt t57)).fst == y_6;
 Z (a, ()) →
 (decide (a < y_3) = true →
 ((0 : Int) ≤ a ∧ a < y_3) ∧
 (y_15 = true → (8 : Int) = y_5) ∧
 (y_15 = false →
 ((y_14 = y_14 ∧ True ∧ y_2 = y_2 ∧ y_3 = y_3) ∧
 y_6 = y_6 ∧
 y_4 = y_4 ∧ y = y ∧ y_9 = y_9 ∧ y_8 = y_8) ∧
 Z (y_14, ()) ∧ μ (y_14, ()) < μ (a, ()))) ∧
 (decide (a < y_3) = false → (0 : Int) = y_5))))))))
theorem vcEq26 : fnVC E26 Tryd.f26 (bodyOf Tryd.f26) cRefWrong = vc26 := by kernel_rfl
def hs27 : List (Nat × Nat × Hint) := [(0, 3, ⟨[.slot 3 t9, .slot 9 t3], [7, 8], [], []⟩)]
def nm27 : List Nat := [3000000024]
noncomputable def E27 : Env := env tab [(55, cUSize), (56, cOne)] [] gl hs27 nm27
def vc27 : Prop :=
 ∀ (x : List Int × Unit),
 let y := x.fst;
 let y_1 := (↑(List.length y) : Int);
 List.length y ≤ (1000000000 : Nat) →
 ((0 : Int) = (0 : Int) ∧ (ByteArray.mk #[]) = (ByteArray.mk #[]) ∧ y = y ∧ y_1 = y_1) ∧
 ∃ (Z : ByteArray × Int × Unit → Prop),
 ∃ (μ : ByteArray × Int × Unit → Nat),
 Z ((ByteArray.mk #[]), (0 : Int), ()) ∧
 ∀ (a : ByteArray),
 let y_2 := a ++ bytesOf (uBytes (65533 : Int) (3 : Int));
 ∀ (a_1 : Int),
 let y_3 := List.getD y (Int.toNat a_1) (Ty.dflt t21);
 let y_4 := IntKind.wrap IntKind.i64 (a_1 + (1 : Int));
 let y_5 := (a, a_1, ());
 let y_6 := (y_2, y_4, ());
 let y_7 := (a ++ bytesOf (uBytes y_3 (uSize y_3)), y_4, ());
 Z y_5 →
 (decide (a_1 < y_1) = true →
 ((0 : Int) ≤ a_1 ∧ a_1 < y_1) ∧
 True ∧
 ((uSize y_3 == (0 : Int)) = true →
 ((0 : Int) ≤ (65533 : Int) ∧
 (65533 : Int) ≤ (1114111 : Int) ∧ uSize (65533 : Int) = (3 : Int)) ∧
 ByteArray.size a + ByteArray.size (bytesOf (uBytes (65533 : Int) (3 : Int))) ≤
 (9223372036854775807 : Nat) ∧
 (y_4 = y_4 ∧ y_2 = y_2 ∧ y = y ∧ y_1 = y_1) ∧ Z y_6 ∧ μ y_6 < μ y_5) ∧
 ((uSize y_3 == (0 : Int)) = false →
 ((0 : Int) ≤ y_3 ∧ y_3 ≤ (1114111 : Int) ∧ uSize y_3 = uSize y_3) ∧
 ByteArray.size a + ByteArray.size (bytesOf (uBytes y_3 (uSize y_3))) ≤
 (9223372036854775807 : Nat) ∧
 (y_4 = y_4 ∧
 a ++ bytesOf (uBytes y_3 (uSize y_3)) = a ++ bytesOf (uBytes y_3 (uSize y_3)) ∧
 y = y ∧ y_1 = y_1) ∧
 Z y_7 ∧ μ y_7 < μ y_5)) ∧
 (decide (a_1 < y_1) = false → a = encode y)
theorem vcEq27 : fnVC E27 Tryd.f27 (bodyOf Tryd.f27) cREncode = vc27 := by kernel_rfl
def hs28 : List (Nat × Nat × Hint) := [(0, 3, ⟨[.rowS 3 900000003 t21 21, .slot 4 t3], [0], [], []⟩)]
def nm28 : List Nat := [3000000024]
noncomputable def E28 : Env := env tab [(57, cRStep)] [] gl hs28 nm28
def vc28 : Prop :=
 ∀ (x : ByteArray × Unit),
 ByteArray.size x.fst ≤ (1000000000 : Nat) →
 (((0 : Int) = (0 : Int) ∧ True ∧ x.fst = x.fst) ∧ True ∧ True) ∧
 ∃ (Z : List Int × Int × Unit → Prop),
 ∃ (μ : List Int × Int × Unit → Nat),
 Z ([], (0 : Int), ()) ∧
 ∀ (a : List Int) (a_1 : Int),
 Z (a, a_1, ()) →
 (decide (a_1 < (↑(ByteArray.size x.fst) : Int)) = true →
 ByteArray.size x.fst ≤ maxLen ∧
 (List.length a + List.length [(uStep x.fst a_1).fst]) * (4 : Nat) ≤ (140737488355328 : Nat) ∧
 List.length a + List.length [(uStep x.fst a_1).fst] ≤ maxLen ∧
 ((IntKind.wrap IntKind.i64 (a_1 + (uStep x.fst a_1).snd.fst) =
 IntKind.wrap IntKind.i64 (a_1 + (uStep x.fst a_1).snd.fst) ∧
 True ∧ x.fst = x.fst) ∧
 a ++ [(uStep x.fst a_1).fst] = a ++ [(uStep x.fst a_1).fst] ∧ True) ∧
 Z
 (a ++ [(uStep x.fst a_1).fst],
 IntKind.wrap IntKind.i64 (a_1 + (uStep x.fst a_1).snd.fst), ()) ∧
 μ
 (a ++ [(uStep x.fst a_1).fst],
 IntKind.wrap IntKind.i64 (a_1 + (uStep x.fst a_1).snd.fst), ()) <
 μ (a, a_1, ())) ∧
 (decide (a_1 < (↑(ByteArray.size x.fst) : Int)) = false → a = decodeL x.fst)
theorem vcEq28 : fnVC E28 Tryd.f28 (bodyOf Tryd.f28) cRDecode = vc28 := by kernel_rfl
def hs29 : List (Nat × Nat × Hint) := []
def nm29 : List Nat := [3000000024]
noncomputable def E29 : Env := env tab [] [] gl hs29 nm29
def vc29 : Prop :=
 ∀ (x : Inl × Inl × Unit),
 True →
 ((x.fst.snd.fst != x.snd.fst.snd.fst) = true →
 decide (x.fst.snd.fst < x.snd.fst.snd.fst) = aheadI x.fst x.snd.fst) ∧
 ((x.fst.snd.fst != x.snd.fst.snd.fst) = false →
 ((x.fst.snd.snd.snd.fst != x.snd.fst.snd.snd.snd.fst) = true →
 decide (x.fst.snd.snd.snd.fst < x.snd.fst.snd.snd.snd.fst) = aheadI x.fst x.snd.fst) ∧
 ((x.fst.snd.snd.snd.fst != x.snd.fst.snd.snd.snd.fst) = false →
 decide (x.fst.fst < x.snd.fst.fst) = aheadI x.fst x.snd.fst))
theorem vcEq29 : fnVC E29 Tryd.f29 (bodyOf Tryd.f29) cAhead = vc29 := by kernel_rfl
def hs32 : List (Nat × Nat × Hint) := []
def nm32 : List Nat := [3000000024]
noncomputable def E32 : Env := env tab [] [] gl hs32 nm32
def vc32 : Prop :=
 ∀ (x : Option (Int × List Inl × Unit) × Unit),
 True →
 (Option.isNone x.fst = true → (0 : Int) = lenI x.fst) ∧
 (Option.isNone x.fst = false →
 Option.isSome x.fst = true ∧ (List.getD (optL x.fst) (0 : Nat) (Ty.dflt t59)).fst = lenI x.fst)
theorem vcEq32 : fnVC E32 Tryd.f32 (bodyOf Tryd.f32) cLen = vc32 := by kernel_rfl
def hs33 : List (Nat × Nat × Hint) := []
def nm33 : List Nat := [3000000024]
noncomputable def E33 : Env := env tab [(63, cClone)] [] gl hs33 nm33
def vc33 : Prop :=
 ∀ (x : Option (Int × List Inl × Unit) × Unit),
 List.length (allI x.fst) ≤ (10000 : Nat) →
 (Option.isNone x.fst = true → [] = allI x.fst) ∧
 (Option.isNone x.fst = false →
 Option.isSome x.fst = true ∧
 List.length (List.getD (optL x.fst) (0 : Nat) (Ty.dflt t59)).snd.fst ≤ (10000 : Nat) ∧
 (List.getD (optL x.fst) (0 : Nat) (Ty.dflt t59)).snd.fst = allI x.fst)
theorem vcEq33 : fnVC E33 Tryd.f33 (bodyOf Tryd.f33) cAll = vc33 := by kernel_rfl
def hs47 : List (Nat × Nat × Hint) := [(0, 3, ⟨[.slot 3 t3, .pos 5], [5], [5], []⟩)]
def nm47 : List Nat := [3000000024]
noncomputable def E47 : Env := env tab [] [] gl hs47 nm47
def vc47 : Prop :=
 ∀ (x : ByteArray × Unit),
 ByteArray.size x.fst ≤ maxLen →
 (((0 : Int) = (0 : Int) ∧ True) ∧ True ∧ x.fst = x.fst ∧ (0 : Nat) = (0 : Nat)) ∧
 ∃ (Z : Int × Nat × Unit → Prop),
 ∃ (μ : Int × Nat × Unit → Nat),
 Z ((0 : Int), (0 : Nat), ()) ∧
 ∀ (a : Int) (a_1 : Nat),
 Z (a, a_1, ()) →
 (decide (a_1 < ByteArray.size x.fst) = true →
 (true = true →
 ((IntKind.wrap IntKind.i64 (a + (1 : Int)) = IntKind.wrap IntKind.i64 (a + (1 : Int)) ∧ True) ∧
 True ∧
 x.fst = x.fst ∧ a_1 + (Utf8.decode x.fst a_1).snd = a_1 + (Utf8.decode x.fst a_1).snd) ∧
 Z (IntKind.wrap IntKind.i64 (a + (1 : Int)), a_1 + (Utf8.decode x.fst a_1).snd, ()) ∧
 μ (IntKind.wrap IntKind.i64 (a + (1 : Int)), a_1 + (Utf8.decode x.fst a_1).snd, ()) <
 μ (a, a_1, ())) ∧
 (true = false → a = (↑(List.length (decodeL x.fst)) : Int))) ∧
 (decide (a_1 < ByteArray.size x.fst) = false →
 (false = true →
 ((IntKind.wrap IntKind.i64 (a + (1 : Int)) = IntKind.wrap IntKind.i64 (a + (1 : Int)) ∧ True) ∧
 True ∧ x.fst = x.fst ∧ a_1 = a_1) ∧
 Z (IntKind.wrap IntKind.i64 (a + (1 : Int)), a_1, ()) ∧
 μ (IntKind.wrap IntKind.i64 (a + (1 : Int)), a_1, ()) < μ (a, a_1, ())) ∧
 (false = false → a = (↑(List.length (decodeL x.fst)) : Int)))
theorem vcEq47 : fnVC E47 Tryd.f47 (bodyOf Tryd.f47) cCount = vc47 := by kernel_rfl
def hs49 : List (Nat × Nat × Hint) := [(0, 3, ⟨[.rowS 3 900000003 t5 5, .slot 8 t3], [6, 7], [], []⟩)]
def nm49 : List Nat := [3000000024]
noncomputable def E49 : Env := env tab [(77, cRight)] [] gl hs49 nm49
def vc49 : Prop :=
 ∀ (x : List Int × Unit),
 let y := x.fst;
 let y_1 := (↑(List.length y) : Int);
 List.length y ≤ (1000000000 : Nat) →
 (((0 : Int) = (0 : Int) ∧ True ∧ y = y ∧ y_1 = y_1) ∧ True ∧ True) ∧
 ∃ (Z : List Int × Int × Unit → Prop),
 ∃ (μ : List Int × Int × Unit → Nat),
 Z ([], (0 : Int), ()) ∧
 ∀ (a : List Int),
 let y_2 := a ++ strBytes (Utf8.encode (65533 : Int));
 ∀ (a_1 : Int),
 let y_3 := IntKind.wrap IntKind.i64 (a_1 + (1 : Int));
 let y_4 := (a, a_1, ());
 let y_5 := a ++ strBytes (Utf8.encode (List.getD y (Int.toNat a_1) (Ty.dflt t21)));
 let y_6 :=  List.length a + List.length (strBytes (Utf8.encode (List.getD y (Int.toNat a_1) (Ty.dflt t21))));
 let y_7 := (y_5, y_3, ());
 let y_8 := (y_2, y_3, ());
 Z y_4 →
 (decide (a_1 < y_1) = true →
 ((0 : Int) ≤ a_1 ∧ a_1 < y_1) ∧
 True ∧
 ((!right (List.getD y (Int.toNat a_1) (Ty.dflt t21))) = true →
 (List.length a + List.length (strBytes (Utf8.encode (65533 : Int)))) * (1 : Nat) ≤
 (140737488355328 : Nat) ∧
 List.length a + List.length (strBytes (Utf8.encode (65533 : Int))) ≤ maxLen ∧
 ((y_3 = y_3 ∧ True ∧ y = y ∧ y_1 = y_1) ∧ y_2 = y_2 ∧ True) ∧ Z y_8 ∧ μ y_8 < μ y_4) ∧
 ((!right (List.getD y (Int.toNat a_1) (Ty.dflt t21))) = false →
 y_6 * (1 : Nat) ≤ (140737488355328 : Nat) ∧
 y_6 ≤ maxLen ∧
 ((y_3 = y_3 ∧ True ∧ y = y ∧ y_1 = y_1) ∧ y_5 = y_5 ∧ True) ∧
 Z y_7 ∧ μ y_7 < μ y_4)) ∧
 (decide (a_1 < y_1) = false → bytesOf a = encode y)
theorem vcEq49 : fnVC E49 Tryd.f49 (bodyOf Tryd.f49) cEncode = vc49 := by kernel_rfl
def hs50 : List (Nat × Nat × Hint) := [(0, 3, ⟨[.rowS 3 900000003 t21 21, .pos 7], [7], [7], []⟩)]
def nm50 : List Nat := [3000000024]
noncomputable def E50 : Env := env tab [] [] gl hs50 nm50
def vc50 : Prop :=
 ∀ (x : ByteArray × Unit),
 ByteArray.size x.fst ≤ (1000000000 : Nat) →
 ((True ∧ True) ∧ (True ∧ x.fst = x.fst ∧ (0 : Nat) = (0 : Nat)) ∧ True ∧ True) ∧
 ∃ (Z : List Int × Nat × Unit → Prop),
 ∃ (μ : List Int × Nat × Unit → Nat),
 Z ([], (0 : Nat), ()) ∧
 ∀ (a : List Int) (a_1 : Nat),
 Z (a, a_1, ()) →
 (decide (a_1 < ByteArray.size x.fst) = true →
 (true = true →
 (List.length a + List.length [(↑(Utf8.decode x.fst a_1).fst : Int)]) * (4 : Nat) ≤
 (140737488355328 : Nat) ∧
 List.length a + List.length [(↑(Utf8.decode x.fst a_1).fst : Int)] ≤ maxLen ∧
 ((True ∧ True) ∧
 (True ∧
 x.fst = x.fst ∧
 a_1 + (Utf8.decode x.fst a_1).snd = a_1 + (Utf8.decode x.fst a_1).snd) ∧
 a ++ [(↑(Utf8.decode x.fst a_1).fst : Int)] =
 a ++ [(↑(Utf8.decode x.fst a_1).fst : Int)] ∧
 True) ∧
 Z (a ++ [(↑(Utf8.decode x.fst a_1).fst : Int)], a_1 + (Utf8.decode x.fst a_1).snd, ()) ∧
 μ (a ++ [(↑(Utf8.decode x.fst a_1).fst : Int)], a_1 + (Utf8.decode x.fst a_1).snd, ()) <
 μ (a, a_1, ())) ∧
 (true = false → a = decodeL x.fst)) ∧
 (decide (a_1 < ByteArray.size x.fst) = false →
 (false = true → False) ∧ (false = false → a = decodeL x.fst))
theorem vcEq50 : fnVC E50 Tryd.f50 (bodyOf Tryd.f50) cDecode = vc50 := by kernel_rfl
def hs53 : List (Nat × Nat × Hint) := [(0, 3, ⟨[.slot 8 t3], [3, 6, 7], [], []⟩)]
def nm53 : List Nat := [3000000024]
noncomputable def E53 : Env := env tab [] [] gl hs53 nm53
def vc53 : Prop :=
 ∀ (x : List Int × Unit),
 List.length x.fst ≤ maxLen →
 ((0 : Int) = (0 : Int) ∧
 (0 : Int) = (0 : Int) ∧ x.fst = x.fst ∧ (↑(List.length x.fst) : Int) = (↑(List.length x.fst) : Int)) ∧
 ∃ (Z : Int × Unit → Prop),
 ∃ (μ : Int × Unit → Nat),
 Z ((0 : Int), ()) ∧
 ∀ (a : Int),
 Z (a, ()) →
 (decide (a < (↑(List.length x.fst) : Int)) = true →
 ((0 : Int) ≤ a ∧ a < (↑(List.length x.fst) : Int)) ∧
 ((List.getD x.fst (Int.toNat a) (Ty.dflt t3) != (0 : Int)) = true →
 List.getD x.fst (Int.toNat a) (Ty.dflt t3) = firstNZ x.fst) ∧
 ((List.getD x.fst (Int.toNat a) (Ty.dflt t3) != (0 : Int)) = false →
 (IntKind.wrap IntKind.i64 (a + (1 : Int)) = IntKind.wrap IntKind.i64 (a + (1 : Int)) ∧
 (0 : Int) = (0 : Int) ∧
 x.fst = x.fst ∧ (↑(List.length x.fst) : Int) = (↑(List.length x.fst) : Int)) ∧
 Z (IntKind.wrap IntKind.i64 (a + (1 : Int)), ()) ∧
 μ (IntKind.wrap IntKind.i64 (a + (1 : Int)), ()) < μ (a, ()))) ∧
 (decide (a < (↑(List.length x.fst) : Int)) = false → (0 : Int) = firstNZ x.fst)
theorem vcEq53 : fnVC E53 Tryd.f53 (bodyOf Tryd.f53) cOr = vc53 := by kernel_rfl
def hs54 : List (Nat × Nat × Hint) := []
def nm54 : List Nat := [3000000024]
noncomputable def E54 : Env := env tab [] [(88, Tryd.f88)] gl hs54 nm54
def vc54 : Prop :=
 ∀ (x : Int × Int × Unit),
 True →
 ((x.fst != x.fst) = true →
 ((x.snd.fst != x.snd.fst) = true → (0 : Int) = cmpI x.fst x.snd.fst) ∧
 ((x.snd.fst != x.snd.fst) = false → (-1 : Int) = cmpI x.fst x.snd.fst)) ∧
 ((x.fst != x.fst) = false →
 ((x.snd.fst != x.snd.fst) = true → (1 : Int) = cmpI x.fst x.snd.fst) ∧
 ((x.snd.fst != x.snd.fst) = false →
 (decide (x.fst < x.snd.fst) = true → (-1 : Int) = cmpI x.fst x.snd.fst) ∧
 (decide (x.fst < x.snd.fst) = false →
 (decide (x.fst > x.snd.fst) = true → (1 : Int) = cmpI x.fst x.snd.fst) ∧
 (decide (x.fst > x.snd.fst) = false → (0 : Int) = cmpI x.fst x.snd.fst))))
theorem vcEq54 : fnVC E54 Tryd.f54 (bodyOf Tryd.f54) cCmp = vc54 := by kernel_rfl
def hs55 : List (Nat × Nat × Hint) := []
def nm55 : List Nat := [3000000024]
noncomputable def E55 : Env := env tab [] [] gl hs55 nm55
def vc55 : Prop :=
 ∀ (x : Int × Unit),
 True →
 (decide (x.fst < (0 : Int)) = true → (0 : Int) = uSize x.fst) ∧
 (decide (x.fst < (0 : Int)) = false →
 (decide (x.fst > (1114111 : Int)) = true → (0 : Int) = uSize x.fst) ∧
 (decide (x.fst > (1114111 : Int)) = false →
 (decide (x.fst ≥ (55296 : Int)) = true →
 (decide (x.fst ≤ (57343 : Int)) = true → (0 : Int) = uSize x.fst) ∧
 (decide (x.fst ≤ (57343 : Int)) = false →
 (decide (x.fst < (128 : Int)) = true → (1 : Int) = uSize x.fst) ∧
 (decide (x.fst < (128 : Int)) = false →
 (decide (x.fst < (2048 : Int)) = true → (2 : Int) = uSize x.fst) ∧
 (decide (x.fst < (2048 : Int)) = false →
 (decide (x.fst < (65536 : Int)) = true → (3 : Int) = uSize x.fst) ∧
 (decide (x.fst < (65536 : Int)) = false → (4 : Int) = uSize x.fst))))) ∧
 (decide (x.fst ≥ (55296 : Int)) = false →
 (decide (x.fst < (128 : Int)) = true → (1 : Int) = uSize x.fst) ∧
 (decide (x.fst < (128 : Int)) = false →
 (decide (x.fst < (2048 : Int)) = true → (2 : Int) = uSize x.fst) ∧
 (decide (x.fst < (2048 : Int)) = false →
 (decide (x.fst < (65536 : Int)) = true → (3 : Int) = uSize x.fst) ∧
 (decide (x.fst < (65536 : Int)) = false → (4 : Int) = uSize x.fst))))))
theorem vcEq55 : fnVC E55 Tryd.f55 (bodyOf Tryd.f55) cUSize = vc55 := by kernel_rfl
def hs56 : List (Nat × Nat × Hint) := []
def nm56 : List Nat := [3000000024]
noncomputable def E56 : Env := env tab [] [] gl hs56 nm56
def vc56 : Prop :=
 ∀ (x : Int × Int × Unit),
 (0 : Int) ≤ x.fst ∧ x.fst ≤ (1114111 : Int) ∧ uSize x.fst = x.snd.fst →
 ((x.snd.fst == (1 : Int)) = true → bytesOf [IntKind.wrap IntKind.u8 x.fst] = bytesOf (uBytes x.fst x.snd.fst)) ∧
 ((x.snd.fst == (1 : Int)) = false →
 ((x.snd.fst == (2 : Int)) = true →
 (64 : Int) ≠ (0 : Int) ∧
 (64 : Int) ≠ (0 : Int) ∧
 bytesOf
 [IntKind.wrap IntKind.u8
 (IntKind.wrap IntKind.i32 ((192 : Int) + IntKind.wrap IntKind.i32 (Int.tdiv x.fst (64 : Int)))),
 IntKind.wrap IntKind.u8 (IntKind.wrap IntKind.i32 ((128 : Int) + Int.tmod x.fst (64 : Int)))] =
 bytesOf (uBytes x.fst x.snd.fst)) ∧
 ((x.snd.fst == (2 : Int)) = false →
 ((x.snd.fst == (3 : Int)) = true →
 (4096 : Int) ≠ (0 : Int) ∧
 (64 : Int) ≠ (0 : Int) ∧
 (64 : Int) ≠ (0 : Int) ∧
 (64 : Int) ≠ (0 : Int) ∧
 bytesOf
 [IntKind.wrap IntKind.u8
 (IntKind.wrap IntKind.i32
 ((224 : Int) + IntKind.wrap IntKind.i32 (Int.tdiv x.fst (4096 : Int)))),
 IntKind.wrap IntKind.u8
 (IntKind.wrap IntKind.i32
 ((128 : Int) +
 Int.tmod (IntKind.wrap IntKind.i32 (Int.tdiv x.fst (64 : Int))) (64 : Int))),
 IntKind.wrap IntKind.u8
 (IntKind.wrap IntKind.i32 ((128 : Int) + Int.tmod x.fst (64 : Int)))] =
 bytesOf (uBytes x.fst x.snd.fst)) ∧
 ((x.snd.fst == (3 : Int)) = false →
 (262144 : Int) ≠ (0 : Int) ∧
 (4096 : Int) ≠ (0 : Int) ∧
 (64 : Int) ≠ (0 : Int) ∧
 (64 : Int) ≠ (0 : Int) ∧
 (64 : Int) ≠ (0 : Int) ∧
 (64 : Int) ≠ (0 : Int) ∧
 bytesOf
 [IntKind.wrap IntKind.u8
 (IntKind.wrap IntKind.i32
 ((240 : Int) + IntKind.wrap IntKind.i32 (Int.tdiv x.fst (262144 : Int)))),
 IntKind.wrap IntKind.u8
 (IntKind.wrap IntKind.i32
 ((128 : Int) +
 Int.tmod (IntKind.wrap IntKind.i32 (Int.tdiv x.fst (4096 : Int))) (64 : Int))),
 IntKind.wrap IntKind.u8
 (IntKind.wrap IntKind.i32
 ((128 : Int) +
 Int.tmod (IntKind.wrap IntKind.i32 (Int.tdiv x.fst (64 : Int))) (64 : Int))),
 IntKind.wrap IntKind.u8
 (IntKind.wrap IntKind.i32 ((128 : Int) + Int.tmod x.fst (64 : Int)))] =
 bytesOf (uBytes x.fst x.snd.fst))))
theorem vcEq56 : fnVC E56 Tryd.f56 (bodyOf Tryd.f56) cOne = vc56 := by kernel_rfl
def hs57 : List (Nat × Nat × Hint) := [(0, 4, ⟨[.slot 5 t3, .cell 4 0 t21, .cell 4 1 t3], [0, 1, 4], [4], []⟩)]
def nm57 : List Nat := [3000000024]
noncomputable def E57 : Env := env tab [(89, cNumber), (55, cUSize), (56, cOne)] [] gl hs57 nm57
def vc57 : Prop :=
 ∀ (x : ByteArray × Int × Unit),
 let y := x.snd.fst;
 let y_1 := x.fst;
 let y_2 := IntKind.wrap IntKind.i64 ((↑(ByteArray.size y_1) : Int) - y);
 let y_3 := uStep y_1 y;
 let y_4 := decide (y ≥ (↑(ByteArray.size y_1) : Int));
 ByteArray.size y_1 ≤ maxLen →
 (decide (y < (0 : Int)) = true → ((0 : Int), (0 : Int), ()) = y_3) ∧
 (decide (y < (0 : Int)) = false →
 (y_4 = true → ((0 : Int), (0 : Int), ()) = y_3) ∧
 (y_4 = false →
 (((1 : Int) = (1 : Int) ∧ y_1 = y_1 ∧ y = y ∧ True) ∧ (0 : Int) = (0 : Int) ∧ (0 : Int) = (0 : Int)) ∧
 ∃ (Z : Int × Int × Int × Unit → Prop),
 ∃ (μ : Int × Int × Int × Unit → Nat),
 Z ((1 : Int), (0 : Int), (0 : Int), ()) ∧
 ∀ (a : Int),
 let y_5 := ByteArray.extract y_1 (Int.toNat y) (Int.toNat (IntKind.wrap IntKind.i64 (y + a)));
 let y_6 := IntKind.wrap IntKind.i64 (a + (1 : Int));
 ∀ (a_1 a_2 : Int),
 let y_7 := (a_1, a_2, ());
 let y_8 := (y_6, y_7);
 let y_9 := (a, y_7);
 Z y_9 →
 (decide (a ≤ (4 : Int)) = true →
 (decide (a ≤ y_2) = true →
 ((0 : Int) ≤ y ∧
 y ≤ IntKind.wrap IntKind.i64 (y + a) ∧
 IntKind.wrap IntKind.i64 (y + a) ≤ (↑(ByteArray.size y_1) : Int)) ∧
 ((1 : Nat) ≤ ByteArray.size y_5 ∧ ByteArray.size y_5 ≤ (4 : Nat)) ∧
 True ∧
 ((uSize (uNum (strBytes y_5)) == a) = true →
 ((0 : Int) ≤ uNum (strBytes y_5) ∧
 uNum (strBytes y_5) ≤ (1114111 : Int) ∧
 uSize (uNum (strBytes y_5)) = a) ∧
 ((ByteArray.toList (bytesOf (uBytes (uNum (strBytes y_5)) a)) ==
 ByteArray.toList y_5) =
 true →
 (uNum (strBytes y_5), a, ()) = y_3) ∧
 ((ByteArray.toList (bytesOf (uBytes (uNum (strBytes y_5)) a)) ==
 ByteArray.toList y_5) =
 false →
 ((y_6 = y_6 ∧ y_1 = y_1 ∧ y = y ∧ True) ∧ a_1 = a_1 ∧ a_2 = a_2) ∧
 Z y_8 ∧ μ y_8 < μ y_9)) ∧
 ((uSize (uNum (strBytes y_5)) == a) = false →
 ((y_6 = y_6 ∧ y_1 = y_1 ∧ y = y ∧ True) ∧ a_1 = a_1 ∧ a_2 = a_2) ∧
 Z y_8 ∧ μ y_8 < μ y_9)) ∧
 (decide (a ≤ y_2) = false → ((65533 : Int), (1 : Int), ()) = y_3)) ∧
 (decide (a ≤ (4 : Int)) = false → ((65533 : Int), (1 : Int), ()) = y_3)))
theorem vcEq57 : fnVC E57 Tryd.f57 (bodyOf Tryd.f57) cRStep = vc57 := by kernel_rfl
def hs63 : List (Nat × Nat × Hint) := []
def nm63 : List Nat := [1000000005, 3000000024]
noncomputable def E63 : Env := env tab [] [] gl hs63 nm63
def vc63 : Prop :=
 ∀ (x : List Inl × Unit),
 List.length x.fst ≤ (10000 : Nat) →
 ∀ (c : Bool),
 (c = true → List.length x.fst = (0 : Nat)) →
 (c = true → [] = x.fst) ∧
 (c = false →
 ((0 : Nat) + List.length x.fst) * (48 : Nat) ≤ (140737488355328 : Nat) ∧
 (0 : Nat) + List.length x.fst ≤ maxLen ∧ [] ++ x.fst = x.fst)
theorem vcEq63 : fnVC E63 Tryd.f63 (bodyOf Tryd.f63) cClone = vc63 := by kernel_rfl
def hs77 : List (Nat × Nat × Hint) := []
def nm77 : List Nat := [3000000024]
noncomputable def E77 : Env := env tab [] [] gl hs77 nm77
def vc77 : Prop :=
 ∀ (x : Int × Unit),
 True →
 (decide (x.fst ≥ (0 : Int)) = true →
 ((0 : Int) ≤ (3 : Int) ∧ (3 : Int) < (↑(4 : Nat) : Int)) ∧
 (decide (x.fst ≤ (1114111 : Int)) = true →
 (decide (x.fst < (55296 : Int)) = true → true = right x.fst) ∧
 (decide (x.fst < (55296 : Int)) = false → decide (x.fst > (57343 : Int)) = right x.fst)) ∧
 (decide (x.fst ≤ (1114111 : Int)) = false → false = right x.fst)) ∧
 (decide (x.fst ≥ (0 : Int)) = false → false = right x.fst)
theorem vcEq77 : fnVC E77 Tryd.f77 (bodyOf Tryd.f77) cRight = vc77 := by kernel_rfl
def hs89 : List (Nat × Nat × Hint) := [(0, 11, ⟨[.slot 3 t21, .slot 4 t3], [0], [], []⟩)]
def nm89 : List Nat := [3000000024]
noncomputable def E89 : Env := env tab [] [] gl hs89 nm89
def vc89 : Prop :=
 ∀ (x : ByteArray × Unit),
 let y := IntKind.wrap IntKind.i32 (↑(UInt8.toNat (Option.getD x.fst.data[Int.toNat (0 : Int)]? (0 : UInt8))) : Int);
 let y_1 := x.fst;
 let y_2 := (↑(ByteArray.size y_1) : Int);
 let y_3 := IntKind.wrap IntKind.i32 (y - (192 : Int));
 let y_4 := IntKind.wrap IntKind.i32 (y - (240 : Int));
 let y_5 := IntKind.wrap IntKind.i32 (y - (224 : Int));
 (1 : Nat) ≤ ByteArray.size y_1 ∧ ByteArray.size y_1 ≤ (4 : Nat) →
 ((0 : Int) ≤ (0 : Int) ∧ (0 : Int) < y_2) ∧
 ((y_2 == (1 : Int)) = true → y = uNum (strBytes y_1)) ∧
 ((y_2 == (1 : Int)) = false →
 ((y_2 == (2 : Int)) = true →
 ((1 : Int) = (1 : Int) ∧ y_3 = y_3 ∧ y_1 = y_1) ∧
 ∃ (Z : Int × Int × Unit → Prop),
 ∃ (μ : Int × Int × Unit → Nat),
 Z (y_3, (1 : Int), ()) ∧
 ∀ (a : Int),
 let y := IntKind.wrap IntKind.i32 ((64 : Int) * a);
 ∀ (a_1 : Int),
 let y :=  IntKind.wrap IntKind.i32  (IntKind.wrap IntKind.i32  (y +  IntKind.wrap IntKind.i32  (↑(UInt8.toNat (Option.getD y_1.data[Int.toNat a_1]? (0 : UInt8))) : Int)) -  (128 : Int));
 let y_6 := (a, a_1, ());
 let y_7 := IntKind.wrap IntKind.i64 (a_1 + (1 : Int));
 let y_8 := (y, y_7, ());
 Z y_6 →
 (decide (a_1 < y_2) = true →
 ((0 : Int) ≤ a_1 ∧ a_1 < y_2) ∧
 (y_7 = y_7 ∧ y = y ∧ y_1 = y_1) ∧ Z y_8 ∧ μ y_8 < μ y_6) ∧
 (decide (a_1 < y_2) = false → a = uNum (strBytes y_1))) ∧
 ((y_2 == (2 : Int)) = false →
 ((y_2 == (3 : Int)) = true →
 ((1 : Int) = (1 : Int) ∧ y_5 = y_5 ∧ y_1 = y_1) ∧
 ∃ (Z : Int × Int × Unit → Prop),
 ∃ (μ : Int × Int × Unit → Nat),
 Z (y_5, (1 : Int), ()) ∧
 ∀ (a : Int),
 let y := IntKind.wrap IntKind.i32 ((64 : Int) * a);
 ∀ (a_1 : Int),
 let y :=  IntKind.wrap IntKind.i32  (IntKind.wrap IntKind.i32  (y +  IntKind.wrap IntKind.i32  (↑(UInt8.toNat (Option.getD y_1.data[Int.toNat a_1]? (0 : UInt8))) : Int)) -  (128 : Int));
 let y_6 := (a, a_1, ());
 let y_7 := IntKind.wrap IntKind.i64 (a_1 + (1 : Int));
 let y_8 := (y, y_7, ());
 Z y_6 →
 (decide (a_1 < y_2) = true →
 ((0 : Int) ≤ a_1 ∧ a_1 < y_2) ∧
 (y_7 = y_7 ∧ y = y ∧ y_1 = y_1) ∧ Z y_8 ∧ μ y_8 < μ y_6) ∧
 (decide (a_1 < y_2) = false → a = uNum (strBytes y_1))) ∧
 ((y_2 == (3 : Int)) = false →
 ((1 : Int) = (1 : Int) ∧ y_4 = y_4 ∧ y_1 = y_1) ∧
 ∃ (Z : Int × Int × Unit → Prop),
 ∃ (μ : Int × Int × Unit → Nat),
 Z (y_4, (1 : Int), ()) ∧
 ∀ (a : Int),
 let y := IntKind.wrap IntKind.i32 ((64 : Int) * a);
 ∀ (a_1 : Int),
 let y :=  IntKind.wrap IntKind.i32  (IntKind.wrap IntKind.i32  (y +  IntKind.wrap IntKind.i32  (↑(UInt8.toNat (Option.getD y_1.data[Int.toNat a_1]? (0 : UInt8))) : Int)) -  (128 : Int));
 let y_6 := (a, a_1, ());
 let y_7 := IntKind.wrap IntKind.i64 (a_1 + (1 : Int));
 let y_8 := (y, y_7, ());
 Z y_6 →
 (decide (a_1 < y_2) = true →
 ((0 : Int) ≤ a_1 ∧ a_1 < y_2) ∧
 (y_7 = y_7 ∧ y = y ∧ y_1 = y_1) ∧ Z y_8 ∧ μ y_8 < μ y_6) ∧
 (decide (a_1 < y_2) = false → a = uNum (strBytes y_1)))))
theorem vcEq89 : fnVC E89 Tryd.f89 (bodyOf Tryd.f89) cNumber = vc89 := by kernel_rfl
end Go.Fr.C14
namespace Go.Fr.C14
open Go Go.Fr Go.Proofs
theorem right_iff {r : Int} : right r = true ↔ 0 ≤ r ∧ r ≤ 1114111 ∧ (r < 55296 ∨ r > 57343) := by simp [right]
theorem right_no {r : Int} : right r = false ↔ ¬ (0 ≤ r ∧ r ≤ 1114111 ∧ (r < 55296 ∨ r > 57343)) := by rw [← right_iff]; simp
theorem p77 : vc77 := by
  unfold vc77
  simp only [eq_self, true_and, and_true, decide_eq_true_eq, decide_eq_false_iff_not, beq_iff_eq, beq_eq_false_iff_ne, bne_iff_ne, bne_eq_false_iff_eq, Bool.not_eq_true', Bool.not_eq_false', ne_eq, imp_true_iff, implies_true]
  rintro ⟨r, ⟨⟩⟩ _
  simp only
  refine ⟨fun h1 => ⟨by decide, fun h2 => ⟨fun h3 => ?_, fun h3 => ?_⟩, fun h2 => ?_⟩, fun h1 => ?_⟩
  · exact (right_iff.2 (by omega)).symm
  · rw [Bool.eq_iff_iff, decide_eq_true_eq, right_iff]; omega
  · exact (right_no.2 (by omega)).symm
  · exact (right_no.2 (by omega)).symm
theorem p55 : vc55 := by
  unfold vc55
  simp only [eq_self, true_and, and_true, decide_eq_true_eq, decide_eq_false_iff_not, beq_iff_eq, beq_eq_false_iff_ne, bne_iff_ne, bne_eq_false_iff_eq, Bool.not_eq_true', Bool.not_eq_false', ne_eq, imp_true_iff, implies_true]
  intro x _
  unfold uSize
  (repeat' (first | apply And.intro | intro _))
  all_goals (repeat' split)
  all_goals omega
theorem sizeR_1 {r : Int} (h : right r = true) : sizeR r = if r ≤ 127 then 1 else if r ≤ 2047 then 2 else if r ≤ 65535 then 3 else 4 := by
  rw [right_iff] at h
  unfold sizeR uSize
  repeat' split
  all_goals omega
theorem sizeR_0 {r : Int} (h : right r = false) : sizeR r = 3 := by
  rw [right_no] at h
  unfold sizeR uSize
  repeat' split
  all_goals omega
theorem bytesOf_congr {a b : List Int} (h : a = b) : bytesOf a = bytesOf b := by rw [h]
theorem p56 : vc56 := by
  unfold vc56
  simp only [eq_self, true_and, and_true, decide_eq_true_eq, decide_eq_false_iff_not, beq_iff_eq, beq_eq_false_iff_ne, bne_iff_ne, bne_eq_false_iff_eq, Bool.not_eq_true', Bool.not_eq_false', ne_eq, imp_true_iff, implies_true]
  rintro ⟨r, n, ⟨⟩⟩
  simp only
  rintro ⟨h0, h1, hn⟩
  have t1 : ∀ d : Int, Int.tdiv r d = r / d := fun d => Int.tdiv_eq_ediv_of_nonneg h0
  have t2 : ∀ d : Int, Int.tmod r d = r % d := fun d => Int.tmod_eq_emod_of_nonneg h0
  have q64 : 0 ≤ r / 64 := by omega
  have q4096 : 0 ≤ r / 4096 := by omega
  have w1 : IntKind.i32.wrap (r / 64) = r / 64 := by rw [wrap32_eq]; omega
  have w2 : IntKind.i32.wrap (r / 4096) = r / 4096 := by rw [wrap32_eq]; omega
  have t3 : ∀ d : Int, Int.tmod (r / 64) d = r / 64 % d := fun d => Int.tmod_eq_emod_of_nonneg q64
  have t4 : ∀ d : Int, Int.tmod (r / 4096) d = r / 4096 % d := fun d => Int.tmod_eq_emod_of_nonneg q4096
  simp only [t1, t2, w1, w2, t3, t4]
  refine ⟨fun e => ?_, fun e1 => ⟨fun e => ⟨by decide, ?_⟩, fun e2 => ⟨fun e => ⟨by decide, by decide, ?_⟩, fun e3 => ⟨by decide, by decide, by decide, ?_⟩⟩⟩⟩
  · subst e
    have := uSize_1.1 hn
    refine bytesOf_congr ?_
    simp only [uBytes, if_true, wrap8_eq, List.cons.injEq, and_true]
    omega
  · subst e
    have := uSize_2.1 hn
    refine ⟨by decide, bytesOf_congr ?_⟩
    unfold uBytes
    rw [if_neg (by decide), if_pos rfl]
    simp only [wrap8_eq, wrap32_eq, List.cons.injEq, and_true]
    omega
  · subst e
    have := uSize_3.1 hn
    refine ⟨by decide, by decide, bytesOf_congr ?_⟩
    unfold uBytes
    rw [if_neg (by decide), if_neg (by decide), if_pos rfl]
    simp only [wrap8_eq, wrap32_eq, List.cons.injEq, and_true]
    omega
  · refine ⟨by decide, by decide, by decide, bytesOf_congr ?_⟩
    unfold uBytes
    rw [if_neg e1, if_neg e2, if_neg e3]
    simp only [wrap8_eq, wrap32_eq, List.cons.injEq, and_true]
    omega
theorem uBytes_bd {r n : Int} (h0 : 0 ≤ r) (h1 : r ≤ 1114111) (hn : uSize r = n) : ∀ x ∈ uBytes r n, 0 ≤ x ∧ x < 256 := by
  unfold uBytes
  intro x hx
  split at hx
  · rename_i e
    have := uSize_1.1 (hn.trans e)
    simp only [List.mem_cons, List.not_mem_nil, or_false] at hx
    omega
  split at hx
  · rename_i e
    have := uSize_2.1 (hn.trans e)
    simp only [List.mem_cons, List.not_mem_nil, or_false] at hx
    omega
  split at hx
  · rename_i e
    have := uSize_3.1 (hn.trans e)
    simp only [List.mem_cons, List.not_mem_nil, or_false] at hx
    omega
  · simp only [List.mem_cons, List.not_mem_nil, or_false] at hx
    omega
theorem uSize_bd {r n : Int} (h : uSize r = n) (hn : n ≠ 0) : 0 ≤ r ∧ r ≤ 1114111 := by
  unfold uSize at h
  split at h
  · omega
  · omega
theorem d21 : Ty.dflt t21 = (0 : Int) := rfl
theorem encB_size (x : Int) : (encB x).size ≤ 4 := by
  have h : ∀ l : List Int, (bytesOf l).size = l.length := fun l => by
    show ((l.map fun n => UInt8.ofNat n.toNat).toArray).size = l.length
    simp
  unfold encB
  split
  · rw [h]; decide
  · rw [h]
    unfold uBytes
    repeat' split
    all_goals simp
theorem encode_take {l : List Int} {k : Nat} (h : k < l.length) : encode (l.take (k + 1)) = encode (l.take k) ++ encB (l.getD k 0) := by
  unfold encode
  rw [foldl_take_succ h, getD_of _ h]
theorem encode_len (l : List Int) : ∀ k, k ≤ l.length → (encode (l.take k)).size ≤ 4 * k
  | 0, _ => by show ByteArray.empty.size ≤ _; exact Nat.zero_le _
  | k + 1, h => by
    have ih := encode_len l k (by omega)
    rw [encode_take (by omega), ByteArray.size_append]
    have := encB_size (l.getD k 0)
    omega
theorem p27 : vc27 := by
  unfold vc27
  simp only [eq_self, true_and, and_true, decide_eq_true_eq, decide_eq_false_iff_not, beq_iff_eq, beq_eq_false_iff_ne, bne_iff_ne, bne_eq_false_iff_eq, Bool.not_eq_true', Bool.not_eq_false', ne_eq, imp_true_iff, implies_true]
  rintro ⟨l, ⟨⟩⟩
  simp only
  intro hl
  rw [d21]
  refine ⟨fun z => ∃ k : Nat, k ≤ l.length ∧ z.2.1 = (k : Int) ∧ z.1 = encode (l.take k), fun z => l.length - z.2.1.toNat, ⟨0, Nat.zero_le _, rfl, rfl⟩, ?_⟩
  rintro a i ⟨k, hk, hi, ha⟩
  simp only at hi ha
  subst hi ha
  refine ⟨fun h => ?_, fun h => ?_⟩
  · have hlt : k < l.length := by omega
    have hw : IntKind.i64.wrap ((k : Int) + 1) = ((k + 1 : Nat) : Int) := wrap_succ (by omega)
    have el := encode_len l k hk
    have es := encB_size (l.getD k 0)
    have et := encode_take hlt
    rw [toNat_cast, hw]
    have hdec : l.length - (((k + 1 : Nat) : Int)).toNat < l.length - (k : Int).toNat := by rw [toNat_cast, toNat_cast]; omega
    unfold encB at es et
    refine ⟨by omega, fun g => ?_, fun g => ?_⟩
    · rw [if_pos g] at es et
      exact ⟨⟨by decide, by decide, by decide⟩, by omega, ⟨k + 1, hlt, rfl, et.symm⟩, hdec⟩
    · rw [if_neg g] at es et
      have := uSize_bd (r := l.getD k 0) rfl g
      exact ⟨⟨this.1, this.2⟩, by omega, ⟨k + 1, hlt, rfl, et.symm⟩, hdec⟩
  · have : k = l.length := by omega
    subst this
    rw [List.take_length]
theorem p47 : vc47 := by
  unfold vc47
  simp only [eq_self, true_and, and_true, decide_eq_true_eq, decide_eq_false_iff_not, beq_iff_eq, beq_eq_false_iff_ne, bne_iff_ne, bne_eq_false_iff_eq, Bool.not_eq_true', Bool.not_eq_false', ne_eq, imp_true_iff, implies_true]
  rintro ⟨s, ⟨⟩⟩
  simp only
  intro hl
  rw [maxLen_eq] at hl
  refine ⟨fun z => ∃ k : Nat, z.1 = (k : Int) ∧ k + (decAt s z.2.1).length = (decodeL s).length ∧ z.2.1 ≤ s.size, fun z => s.size - z.2.1, ⟨0, rfl, Nat.zero_add _, Nat.zero_le _⟩, ?_⟩
  rintro a p ⟨k, hi, hs, hp⟩
  simp only at hi hs hp
  subst hi
  have hd := decAt_len s s.size 0 (by omega)
  have e0 : decAt s 0 = decodeL s := rfl
  rw [e0] at hd
  refine ⟨fun h => ?_, fun h => ?_⟩
  · have wd := decode_width s p h
    rw [decAt_step h] at hs
    simp only [List.length_cons] at hs
    have hw : IntKind.i64.wrap ((k : Int) + 1) = ((k + 1 : Nat) : Int) := wrap_succ (by omega)
    rw [hw]
    simp only [reduceCtorEq, false_implies, and_true, forall_const]
    refine ⟨⟨k + 1, rfl, ?_, ?_⟩, ?_⟩ <;> first | omega | (simp only; omega)
  · rw [decAt_end (by omega)] at hs
    simp only [List.length_nil] at hs
    simp only [reduceCtorEq, false_implies, true_and, forall_const]
    omega
theorem uStep_in {s : ByteArray} {p : Nat} (h : p < s.size) : uStep s (p : Int) = (((Utf8.decode s p).1 : Int), ((Utf8.decode s p).2 : Int), ()) := by
  unfold uStep
  rw [if_neg (by omega)]
  rfl
theorem p28 : vc28 := by
  unfold vc28
  simp only [eq_self, true_and, and_true, decide_eq_true_eq, decide_eq_false_iff_not, beq_iff_eq, beq_eq_false_iff_ne, bne_iff_ne, bne_eq_false_iff_eq, Bool.not_eq_true', Bool.not_eq_false', ne_eq, imp_true_iff, implies_true]
  rintro ⟨s, ⟨⟩⟩
  simp only
  intro hl
  rw [maxLen_eq]
  refine ⟨fun z => ∃ p : Nat, z.2.1 = (p : Int) ∧ z.1 ++ decAt s p = decodeL s ∧ z.1.length ≤ p ∧ p ≤ s.size, fun z => s.size - z.2.1.toNat, ⟨0, rfl, rfl, Nat.le_refl _, Nat.zero_le _⟩, ?_⟩
  rintro a i ⟨p, hi, hs, hlen, hp⟩
  simp only at hi hs hlen
  subst hi
  refine ⟨fun h => ?_, fun h => ?_⟩
  · have hlt : p < s.size := by omega
    have wd := decode_width s p hlt
    rw [uStep_in hlt]
    simp only
    have hw : IntKind.i64.wrap ((p : Int) + ((Utf8.decode s p).2 : Int)) = ((p + (Utf8.decode s p).2 : Nat) : Int) := by rw [wrap_eq]; omega
    have e2 : ∀ c : Int, [c].length = 1 := fun _ => rfl
    rw [hw, e2]
    refine ⟨by omega, by omega, by omega, ⟨p + (Utf8.decode s p).2, rfl, ?_, ?_, by omega⟩, ?_⟩
    · rw [decAt_step hlt] at hs
      simp only [List.append_assoc, List.cons_append, List.nil_append]
      exact hs
    · simp only [List.length_append, List.length_cons, List.length_nil]; omega
    · show s.size - (((p + (Utf8.decode s p).2 : Nat) : Int)).toNat < s.size - (p : Int).toNat
      rw [toNat_cast, toNat_cast]; omega
  · rw [decAt_end (by omega), List.append_nil] at hs
    exact hs
theorem p57 : vc57 := by
  unfold vc57
  simp only [eq_self, true_and, and_true, decide_eq_true_eq, decide_eq_false_iff_not, beq_iff_eq, beq_eq_false_iff_ne, bne_iff_ne, bne_eq_false_iff_eq, Bool.not_eq_true', Bool.not_eq_false', ne_eq, imp_true_iff, implies_true]
  rintro ⟨s, p, ⟨⟩⟩
  simp only
  intro hl
  rw [maxLen_eq] at hl
  refine ⟨fun h => by unfold uStep; rw [if_pos (by omega)], fun h => ⟨fun h2 => by unfold uStep; rw [if_pos (by omega)], fun h2 => ?_⟩⟩
  obtain ⟨i, rfl⟩ : ∃ i : Nat, p = i := ⟨p.toNat, by omega⟩
  have hi : i < s.size := by omega
  have hw0 : IntKind.i64.wrap ((s.size : Int) - (i : Int)) = (s.size : Int) - (i : Int) := by rw [wrap_eq]; omega
  rw [hw0, uStep_in hi]
  refine ⟨fun z => ∃ k : Nat, 1 ≤ k ∧ k ≤ 5 ∧ z.1 = (k : Int) ∧ ∀ m, 1 ≤ m → m < k → i + m ≤ s.size → ¬ fitsN s i m, fun z => 5 - z.1.toNat, ⟨1, Nat.le_refl _, by omega, rfl, fun m h1 h2 => by omega⟩, ?_⟩
  rintro a a1 a2 ⟨k, k1, k5, hk, hs⟩
  simp only at hk
  subst hk
  have bad : (5 ≤ k ∨ s.size < i + k) → Utf8.decode s i = (65533, 1) := fun g =>
    by
      refine step_0 (fun f => ?_) (fun q f => ?_) (fun q f => ?_) (fun q f => ?_)
      · exact hs 1 (by omega) (by omega) (by omega) f
      · exact hs 2 (by omega) (by omega) (by omega) f
      · exact hs 3 (by omega) (by omega) (by omega) f
      · exact hs 4 (by omega) (by omega) (by omega) f
  refine ⟨fun h4 => ⟨fun h5 => ?_, fun h5 => by rw [bad (by omega)]; rfl⟩, fun h4 => by rw [bad (by omega)]; rfl⟩
  have hw : IntKind.i64.wrap ((k : Int) + 1) = ((k + 1 : Nat) : Int) := wrap_succ (by omega)
  have hw2 : IntKind.i64.wrap ((i : Int) + (k : Int)) = ((i + k : Nat) : Int) := by rw [wrap_eq]; omega
  rw [hw, hw2, toNat_cast, toNat_cast, strBytes_extract s i k (by omega)]
  have hz : (s.extract i (i + k)).size = k := by rw [ByteArray.size_extract]; omega
  have hdec : 5 - (((k + 1 : Nat) : Int)).toNat < 5 - (k : Int).toNat := by rw [toNat_cast, toNat_cast]; omega
  have next : ¬ fitsN s i k → ∃ k' : Nat, 1 ≤ k' ∧ k' ≤ 5 ∧ ((k + 1 : Nat) : Int) = (k' : Int) ∧ ∀ m, 1 ≤ m → m < k' → i + m ≤ s.size → ¬ fitsN s i m := fun g =>
    ⟨k + 1, by omega, by omega, rfl, fun m m1 m2 m3 => by
      by_cases e : m = k
      · subst e; exact g
      · exact hs m m1 (by omega) m3⟩
  refine ⟨by omega, by omega, fun g => ?_, fun g => ⟨next (fun f => g f.1), hdec⟩⟩
  have bd := uSize_bd g (by omega)
  have eqv : (bytesOf (uBytes (uNum (bytesAt s i k)) (k : Int))).toList = (s.extract i (i + k)).toList ↔ uBytes (uNum (bytesAt s i k)) (k : Int) = bytesAt s i k := by
    rw [← strBytes_inj, strBytes_of (uBytes_bd bd.1 bd.2 g), strBytes_extract s i k (by omega)]
  rw [eqv]
  refine ⟨⟨bd.1, bd.2, g⟩, fun e => ?_, fun e => ⟨next (fun f => e f.2), hdec⟩⟩
  rw [step_n k1 (by omega) (by omega) ⟨g, e⟩]
  simp only [Prod.mk.injEq, and_true]
  omega
def pnum (s : ByteArray) (base : Int) : Nat → Int
  | 0 => 0
  | 1 => (byt s 0 : Int) - base
  | 2 => 64 * ((byt s 0 : Int) - base) + (byt s 1 : Int) - 128
  | 3 => 64 * (64 * ((byt s 0 : Int) - base) + (byt s 1 : Int) - 128) + (byt s 2 : Int) - 128
  | _ => 64 * (64 * (64 * ((byt s 0 : Int) - base) + (byt s 1 : Int) - 128) + (byt s 2 : Int) - 128) + (byt s 3 : Int) - 128
theorem number_loop {s : ByteArray} {base : Int} {want : Int} (h0 : 1 ≤ s.size) (h4 : s.size ≤ 4) (b0 : 0 ≤ base) (b1 : base ≤ 240) (hw : pnum s base s.size = want) :
    ∃ (Z : Int × Int × Unit → Prop), ∃ (μ : Int × Int × Unit → Nat), Z (IntKind.i32.wrap (IntKind.i32.wrap (byt s 0 : Int) - base), (1 : Int), ()) ∧ ∀ (a i : Int), Z (a, i, ()) →
      (i < (s.size : Int) → ((0 : Int) ≤ i ∧ i < (s.size : Int)) ∧
        Z (IntKind.i32.wrap (IntKind.i32.wrap (IntKind.i32.wrap (64 * a) + IntKind.i32.wrap (byt s i.toNat : Int)) - 128), IntKind.i64.wrap (i + 1), ()) ∧
        μ (IntKind.i32.wrap (IntKind.i32.wrap (IntKind.i32.wrap (64 * a) + IntKind.i32.wrap (byt s i.toNat : Int)) - 128), IntKind.i64.wrap (i + 1), ()) < μ (a, i, ())) ∧
      (¬ i < (s.size : Int) → a = want) := by
  have c0 := byt_lt s 0
  have c1 := byt_lt s 1
  have c2 := byt_lt s 2
  have c3 := byt_lt s 3
  refine ⟨fun z => ∃ k : Nat, 1 ≤ k ∧ k ≤ s.size ∧ z.2.1 = (k : Int) ∧ z.1 = pnum s base k, fun z => s.size - z.2.1.toNat, ⟨1, Nat.le_refl _, h0, rfl, ?_⟩, ?_⟩
  · show _ = (byt s 0 : Int) - base
    simp only [wrap32_eq]
    omega
  rintro a i ⟨k, k1, k2, hi, ha⟩
  simp only at hi ha
  subst hi ha
  refine ⟨fun h => ?_, fun h => ?_⟩
  · have hw2 : IntKind.i64.wrap ((k : Int) + 1) = ((k + 1 : Nat) : Int) := wrap_succ (by omega)
    rw [hw2, toNat_cast]
    refine ⟨by omega, ⟨k + 1, by omega, by omega, rfl, ?_⟩, ?_⟩
    · have e : k = 1 ∨ k = 2 ∨ k = 3 := by omega
      rcases e with rfl | rfl | rfl
      · simp only [pnum, wrap32_eq]; omega
      · simp only [pnum, wrap32_eq]; omega
      · simp only [pnum, wrap32_eq]; omega
    · show s.size - (((k + 1 : Nat) : Int)).toNat < s.size - (k : Int).toNat
      rw [toNat_cast, toNat_cast]; omega
  · have : k = s.size := by omega
    rw [this]; exact hw
theorem p89 : vc89 := by
  unfold vc89
  simp only [eq_self, true_and, and_true, decide_eq_true_eq, decide_eq_false_iff_not, beq_iff_eq, beq_eq_false_iff_ne, bne_iff_ne, bne_eq_false_iff_eq, Bool.not_eq_true', Bool.not_eq_false', ne_eq, imp_true_iff, implies_true]
  rintro ⟨s, ⟨⟩⟩
  simp only
  rintro ⟨h0, h4⟩
  have e0 : (0 : Int).toNat = 0 := rfl
  rw [e0]
  simp only [byt_data]
  rw [strBytes_all]
  have c0 := byt_lt s 0
  refine ⟨by omega, fun e => ?_, fun e1 => ⟨fun e => ?_, fun e2 => ⟨fun e => ?_, fun e3 => ?_⟩⟩⟩
  · have hs : s.size = 1 := by omega
    rw [hs]
    show _ = (byt s 0 : Int)
    rw [wrap32_eq]
    omega
  · have hs : s.size = 2 := by omega
    exact number_loop h0 h4 (by decide) (by decide) (by rw [hs]; rfl)
  · have hs : s.size = 3 := by omega
    exact number_loop h0 h4 (by decide) (by decide) (by rw [hs]; rfl)
  · have hs : s.size = 4 := by omega
    exact number_loop h0 h4 (by decide) (by decide) (by rw [hs]; rfl)
def fix (x : Int) : Int := if uSize x = 0 then 65533 else x
theorem size_cases (x : Int) : uSize x = 0 ∨ uSize x = 1 ∨ uSize x = 2 ∨ uSize x = 3 ∨ uSize x = 4 := by
  unfold uSize
  repeat' split
  all_goals omega
theorem fix_size (x : Int) : uSize (fix x) = sizeR x := by
  unfold fix sizeR
  split
  · decide
  · rfl
theorem encB_eq (x : Int) : encB x = bytesOf (uBytes (fix x) (sizeR x)) := by
  unfold encB fix sizeR
  split <;> rfl
theorem sizeR_cases (x : Int) : sizeR x = 1 ∨ sizeR x = 2 ∨ sizeR x = 3 ∨ sizeR x = 4 := by
  unfold sizeR
  have := size_cases x
  split <;> omega
theorem uNum_uBytes (y n : Int) (h : n = 1 ∨ n = 2 ∨ n = 3 ∨ n = 4) : uNum (uBytes y n) = y := by
  rcases h with rfl | rfl | rfl | rfl <;> simp [uBytes, uNum] <;> omega
theorem uBytes_len (y n : Int) (h : n = 1 ∨ n = 2 ∨ n = 3 ∨ n = 4) : ((uBytes y n).length : Int) = n := by
  rcases h with rfl | rfl | rfl | rfl <;> simp [uBytes]
theorem strBytes_append (a b : ByteArray) : strBytes (a ++ b) = strBytes a ++ strBytes b := by
  unfold strBytes
  simp
theorem bytesAt_take (s : ByteArray) (i n : Nat) (h : i + n ≤ s.size) : bytesAt s i n = ((strBytes s).drop i).take n := by
  apply List.ext_getElem?
  intro k
  by_cases hk : k < n
  · rw [bytesAt_get s n i k hk, List.getElem?_take, if_pos hk, List.getElem?_drop, strBytes_get s _ (by omega)]
  · rw [List.getElem?_eq_none (by rw [bytesAt_len]; omega), List.getElem?_eq_none (by rw [List.length_take]; omega)]
theorem encB_bytes (x : Int) : strBytes (encB x) = uBytes (fix x) (sizeR x) := by
  rw [encB_eq]
  have hn := sizeR_cases x
  have hb := uSize_bd (fix_size x) (by omega)
  exact strBytes_of (uBytes_bd hb.1 hb.2 (fix_size x))
theorem encB_len (x : Int) : ((encB x).size : Int) = sizeR x := by
  rw [← strBytes_len, encB_bytes]
  exact uBytes_len _ _ (sizeR_cases x)
theorem dec_enc (a t : ByteArray) (x : Int) : Utf8.decode (a ++ encB x ++ t) a.size = ((fix x).toNat, (encB x).size) := by
  have hn := sizeR_cases x
  have hl := encB_len x
  have hsz : (a ++ encB x ++ t).size = a.size + (encB x).size + t.size := by rw [ByteArray.size_append, ByteArray.size_append]
  have hb : bytesAt (a ++ encB x ++ t) a.size (encB x).size = uBytes (fix x) (sizeR x) := by
    rw [bytesAt_take _ _ _ (by omega), strBytes_append, strBytes_append, List.append_assoc, List.drop_left' (strBytes_len a), List.take_left' (strBytes_len _), encB_bytes]
  have := step_n (s := a ++ encB x ++ t) (i := a.size) (n := (encB x).size) (by omega) (by omega) (by omega) (by
    unfold fitsN
    rw [hb, uNum_uBytes _ _ hn, hl]
    exact ⟨fix_size x, rfl⟩)
  rw [this, hb, uNum_uBytes _ _ hn]
theorem encode_acc : ∀ (l : List Int) (s : ByteArray), l.foldl (fun s x => s ++ encB x) s = s ++ encode l
  | [], s => by simp [encode]
  | x :: l, s => by
    unfold encode
    simp only [List.foldl_cons]
    rw [encode_acc l, encode_acc l (ByteArray.empty ++ encB x), ByteArray.append_assoc, ByteArray.append_assoc]
    simp
theorem encode_cons (x : Int) (l : List Int) : encode (x :: l) = encB x ++ encode l := by
  show l.foldl (fun s x => s ++ encB x) (ByteArray.empty ++ encB x) = _
  rw [encode_acc]
  simp
theorem fix_bd (x : Int) : 0 ≤ fix x := by
  have h := uSize_bd (fix_size x) (by have := sizeR_cases x; omega)
  exact h.1
theorem dec_all : ∀ (l : List Int) (a t : ByteArray), decAt (a ++ encode l ++ t) a.size = l.map fix ++ decAt (a ++ encode l ++ t) (a.size + (encode l).size)
  | [], a, t => by
    have : (encode []).size = 0 := rfl
    rw [this, Nat.add_zero]; rfl
  | x :: l, a, t => by
    have e : a ++ encode (x :: l) ++ t = (a ++ encB x) ++ encode l ++ t := by rw [encode_cons]; simp [ByteArray.append_assoc]
    have e2 : (a ++ encB x) ++ encode l ++ t = a ++ encB x ++ (encode l ++ t) := by simp [ByteArray.append_assoc]
    have hl := encB_len x
    have hn := sizeR_cases x
    have hp : a.size < (a ++ encode (x :: l) ++ t).size := by
      rw [e, e2, ByteArray.size_append, ByteArray.size_append]; omega
    rw [decAt_step hp, e, e2, dec_enc a (encode l ++ t) x, ← e2]
    simp only [List.map_cons, List.cons_append]
    have ih := dec_all l (a ++ encB x) t
    rw [ByteArray.size_append] at ih
    rw [ih, encode_cons, ByteArray.size_append, ← Nat.add_assoc]
    congr 1
    have := fix_bd x
    omega
theorem byt_over {s : ByteArray} {k : Nat} (h : s.size ≤ k) : byt s k = 0 := by
  unfold byt
  have : s.get! k = 0 := by
    show s.data.getD k 0 = 0
    rw [Array.getD_eq_getD_getElem?, Array.getElem?_eq_none (show s.data.size ≤ k from h)]
    rfl
  rw [this]; rfl
theorem decode_congr {s t : ByteArray} {i j : Nat} (h : ∀ k, byt s (i + k) = byt t (j + k)) (hs : ∀ k, i + k < s.size ↔ j + k < t.size) : Utf8.decode s i = Utf8.decode t j := by
  rw [decode_eq, decode_eq]
  have h0 := h 0
  simp only [Nat.add_zero] at h0
  simp only [h0, h, hs]
theorem byt_append (b t : ByteArray) (k : Nat) : byt (b ++ t) (b.size + k) = byt t k := by
  by_cases hk : k < t.size
  · have h1 := strBytes_get (b ++ t) (b.size + k) (by rw [ByteArray.size_append]; omega)
    rw [strBytes_append, List.getElem?_append_right (by rw [strBytes_len]; omega), strBytes_len, Nat.add_sub_cancel_left, strBytes_get t k hk] at h1
    injection h1 with h1
    omega
  · rw [byt_over (s := b ++ t) (by rw [ByteArray.size_append]; omega), byt_over (by omega)]
theorem decAt_append (b t : ByteArray) : ∀ (f p : Nat), t.size ≤ p + f → decAt (b ++ t) (b.size + p) = decAt t p
  | 0, p, h => by rw [decAt_end (by rw [ByteArray.size_append]; omega), decAt_end (by omega)]
  | f + 1, p, h => by
    by_cases hp : p < t.size
    · have e : Utf8.decode (b ++ t) (b.size + p) = Utf8.decode t p := decode_congr (fun k => by rw [Nat.add_assoc, byt_append]) (fun k => by rw [ByteArray.size_append]; omega)
      have wd := decode_width t p hp
      rw [decAt_step (by rw [ByteArray.size_append]; omega), decAt_step hp, e, Nat.add_assoc, decAt_append b t f _ (by omega)]
    · rw [decAt_end (by rw [ByteArray.size_append]; omega), decAt_end (by omega)]
theorem dec_join (l : List Int) (t : ByteArray) : decodeL (encode l ++ t) = l.map fix ++ decodeL t := by
  have h := dec_all l ByteArray.empty t
  have e0 : ByteArray.empty ++ encode l ++ t = encode l ++ t := by simp
  have e1 : ByteArray.empty.size = 0 := rfl
  rw [e0, e1, Nat.zero_add] at h
  have h2 := decAt_append (encode l) t t.size 0 (by omega)
  rw [Nat.add_zero] at h2
  rw [h2] at h
  exact h
theorem dec_encode (l : List Int) : decodeL (encode l) = l.map fix := by
  have h := dec_join l ByteArray.empty
  have e0 : encode l ++ ByteArray.empty = encode l := by simp
  rw [e0] at h
  rw [h]
  show _ ++ [] = _
  simp
theorem decode_valid (s : ByteArray) (i : Nat) : uSize ((Utf8.decode s i).1 : Int) ≠ 0 := by
  unfold uSize
  rw [decode_eq]
  have := byt_lt s i
  repeat' split
  all_goals simp only at *
  all_goals (try (rename_i h _; rw [valid_iff] at h))
  all_goals omega
theorem fix_dec (s : ByteArray) : ∀ (f p : Nat), s.size ≤ p + f → (decAt s p).map fix = decAt s p
  | 0, p, h => by rw [decAt_end (by omega)]; rfl
  | f + 1, p, h => by
    by_cases hp : p < s.size
    · have wd := decode_width s p hp
      rw [decAt_step hp, List.map_cons, fix_dec s f _ (by omega)]
      congr 1
      unfold fix
      rw [if_neg (decode_valid s p)]
    · rw [decAt_end (by omega)]; rfl
theorem fix_decL (s : ByteArray) : (decodeL s).map fix = decodeL s := fix_dec s s.size 0 (by omega)
theorem dec_clean (s : ByteArray) : decodeL (clean s) = decodeL s := by
  unfold clean
  rw [dec_encode, fix_decL]
theorem clean_clean (s : ByteArray) : clean (clean s) = clean s := by
  show encode (decodeL (clean s)) = _
  rw [dec_clean]; rfl
theorem toList_inj {a b : ByteArray} (h : a.toList = b.toList) : a = b := by
  rw [toList_data, toList_data] at h
  cases a; cases b
  simp only [ByteArray.mk.injEq]
  exact Array.toList_inj.1 h
theorem encode_size (l : List Int) : (encode l).size ≤ 4 * l.length := by
  have := encode_len l l.length (Nat.le_refl _)
  rwa [List.take_length] at this
theorem decL_len (s : ByteArray) : (decodeL s).length ≤ s.size := by
  have := decAt_len s s.size 0 (by omega)
  exact this
theorem utf_enc (x : Int) : Utf8.encode x = encB x := by
  unfold Utf8.encode encB
  by_cases h : uSize x = 0
  · have hv : Utf8.valid x = false := by
      cases hh : Utf8.valid x with
      | false => rfl
      | true =>
        exfalso
        rw [valid_iff] at hh
        unfold uSize at h
        repeat' split at h
        all_goals omega
    rw [if_pos h, hv]
    rfl
  · have hv : Utf8.valid x = true := by
      rw [valid_iff]
      unfold uSize at h
      repeat' split at h
      all_goals omega
    rw [if_neg h, hv]
    obtain ⟨m, rfl⟩ : ∃ m : Nat, x = (m : Int) := ⟨x.toNat, by have := uSize_bd (r := x) rfl h; omega⟩
    simp only [if_true, toNat_cast]
    have q : ∀ (n : Int) (k : Nat), n = (k : Int) → UInt8.ofNat n.toNat = UInt8.ofNat k := fun n k e => by rw [e]; rfl
    rcases size_cases (m : Int) with e | e | e | e | e
    · exact absurd e h
    · have := uSize_1.1 e
      rw [if_pos (by omega), e]
      show _ = ByteArray.mk ([UInt8.ofNat (m : Int).toNat].toArray)
      rfl
    · have := uSize_2.1 e
      rw [if_neg (by omega), if_pos (by omega), e]
      show _ = ByteArray.mk ([UInt8.ofNat (192 + (m : Int) / 64).toNat, UInt8.ofNat (128 + (m : Int) % 64).toNat].toArray)
      rw [q _ (192 + m / 64) (by omega), q _ (128 + m % 64) (by omega)]
    · have := uSize_3.1 e
      rw [if_neg (by omega), if_neg (by omega), if_pos (by omega), e]
      show _ = ByteArray.mk ([UInt8.ofNat (224 + (m : Int) / 4096).toNat, UInt8.ofNat (128 + (m : Int) / 64 % 64).toNat, UInt8.ofNat (128 + (m : Int) % 64).toNat].toArray)
      rw [q _ (224 + m / 4096) (by omega), q _ (128 + m / 64 % 64) (by omega), q _ (128 + m % 64) (by omega)]
    · have := uSize_4.1 e
      rw [if_neg (by omega), if_neg (by omega), if_neg (by omega), e]
      show _ = ByteArray.mk ([UInt8.ofNat (240 + (m : Int) / 262144).toNat, UInt8.ofNat (128 + (m : Int) / 4096 % 64).toNat, UInt8.ofNat (128 + (m : Int) / 64 % 64).toNat, UInt8.ofNat (128 + (m : Int) % 64).toNat].toArray)
      rw [q _ (240 + m / 262144) (by omega), q _ (128 + m / 4096 % 64) (by omega), q _ (128 + m / 64 % 64) (by omega), q _ (128 + m % 64) (by omega)]
theorem bytesOf_str (s : ByteArray) : bytesOf (strBytes s) = s := by
  apply toList_inj
  rw [← strBytes_inj, strBytes_of]
  intro x hx
  obtain ⟨k, hk, rfl⟩ := List.getElem_of_mem hx
  have hks : k < s.size := by rw [strBytes_len] at hk; exact hk
  have := strBytes_get s k hks
  rw [List.getElem?_eq_getElem hk] at this
  injection this with this
  rw [this]
  have := byt_lt s k
  omega
theorem right_0 {x : Int} (h : right x = false) : uSize x = 0 := by
  rw [right_no] at h
  unfold uSize
  rw [if_pos (by omega)]
theorem encB_bad {x : Int} (h : right x = false) : encB 65533 = encB x := by
  unfold encB
  rw [if_pos (right_0 h)]
  rfl
theorem p49 : vc49 := by
  unfold vc49
  simp only [eq_self, true_and, and_true, decide_eq_true_eq, decide_eq_false_iff_not, beq_iff_eq, beq_eq_false_iff_ne, bne_iff_ne, bne_eq_false_iff_eq, Bool.not_eq_true', Bool.not_eq_false', ne_eq, imp_true_iff, implies_true]
  rintro ⟨l, ⟨⟩⟩
  simp only
  intro hl
  rw [d21, maxLen_eq]
  refine ⟨fun z => ∃ k : Nat, k ≤ l.length ∧ z.2.1 = (k : Int) ∧ z.1 = strBytes (encode (l.take k)), fun z => l.length - z.2.1.toNat, ⟨0, Nat.zero_le _, rfl, rfl⟩, ?_⟩
  rintro a i ⟨k, hk, hi, ha⟩
  simp only at hi ha
  subst hi ha
  refine ⟨fun h => ?_, fun h => ?_⟩
  · have hlt : k < l.length := by omega
    have hw : IntKind.i64.wrap ((k : Int) + 1) = ((k + 1 : Nat) : Int) := wrap_succ (by omega)
    have el := encode_len l k hk
    have et := encode_take hlt
    rw [toNat_cast, hw, utf_enc, utf_enc]
    generalize l.getD k 0 = x at *
    have es := encB_size x
    have e6 := encB_size 65533
    have hdec : l.length - (((k + 1 : Nat) : Int)).toNat < l.length - (k : Int).toNat := by rw [toNat_cast, toNat_cast]; omega
    simp only [strBytes_len]
    refine ⟨by omega, fun g => ⟨by omega, by omega, ⟨k + 1, hlt, rfl, ?_⟩, hdec⟩, fun g => ⟨by omega, by omega, ⟨k + 1, hlt, rfl, ?_⟩, hdec⟩⟩
    · rw [encB_bad g, ← strBytes_append, et]
    · rw [← strBytes_append, et]
  · have : k = l.length := by omega
    subst this
    rw [List.take_length, bytesOf_str]
theorem p50 : vc50 := by
  unfold vc50
  simp only [eq_self, true_and, and_true, decide_eq_true_eq, decide_eq_false_iff_not, beq_iff_eq, beq_eq_false_iff_ne, bne_iff_ne, bne_eq_false_iff_eq, Bool.not_eq_true', Bool.not_eq_false', ne_eq, imp_true_iff, implies_true]
  rintro ⟨s, ⟨⟩⟩
  simp only
  intro hl
  rw [maxLen_eq]
  refine ⟨fun z => z.1 ++ decAt s z.2.1 = decodeL s ∧ z.1.length ≤ z.2.1 ∧ z.2.1 ≤ s.size, fun z => s.size - z.2.1, ⟨rfl, Nat.le_refl _, Nat.zero_le _⟩, ?_⟩
  rintro a p ⟨hs, hlen, hp⟩
  simp only at hs hlen hp
  have e2 : ∀ c : Int, [c].length = 1 := fun _ => rfl
  refine ⟨fun h => ⟨fun _ => ?_, (fun h => by cases h)⟩, fun h => ⟨(fun h => by cases h), fun _ => ?_⟩⟩
  · have wd := decode_width s p h
    rw [e2]
    refine ⟨by omega, by omega, ⟨?_, ?_, by simp only; omega⟩, by simp only; omega⟩
    · rw [decAt_step h] at hs
      simp only [List.append_assoc, List.cons_append, List.nil_append]
      exact hs
    · simp only [List.length_append, List.length_cons, List.length_nil]; omega
  · rw [decAt_end (by omega), List.append_nil] at hs
    exact hs
theorem p23 : vc23 := by
  rintro ⟨s, ⟨⟩⟩
  simp only
  intro hl
  have := decL_len s
  exact ⟨by omega, by omega, rfl⟩
theorem byt_extract (s : ByteArray) (i k : Nat) (hi : i ≤ s.size) : byt (s.extract i s.size) k = byt s (i + k) := by
  by_cases h : i + k < s.size
  · exact extract_byt s i s.size k h (Nat.le_refl _)
  · rw [byt_over (s := s) (by omega), byt_over (by rw [ByteArray.size_extract]; omega)]
theorem sum_size {l : List Int} {k : Nat} (h : k < l.length) : ((encode (l.take (k + 1))).size : Int) = (encode (l.take k)).size + sizeR (l.getD k 0) := by
  rw [encode_take h, ByteArray.size_append, ← encB_len]
  omega
end Go.Fr.C14
namespace Go.Fr.C14
open Go Go.Fr Go.Proofs
abbrev D3 := Int × Int × Int × Unit
abbrev Itm := Int × Int × D3 × Int × ByteArray × Unit
abbrev Sm := Int × D3 × Int × Int × Unit
abbrev Lf := List Itm × Sm × Unit
abbrev Nx := Int × Sm × Unit
abbrev Nd := NT Lf Nx
def withinN (n : Int) : Bool := decide (0 ≤ n) && decide (n ≤ 1099511627776)
def checkI (x : Itm) : Int := if (withinN x.2.2.2.1 && withinN x.2.2.1.1 && withinN x.2.2.1.2.1 && withinN x.2.2.1.2.2.1) = true then 0 else 1
def ofI (x : Itm) : Sm := (1, x.2.2.1, x.2.2.2.1, 0, ())
def zS : Sm := (0, (0, 0, 0, ()), 0, 0, ())
def addD (a b : D3) : D3 := (w64 (a.1 + b.1), w64 (a.2.1 + b.2.1), w64 (a.2.2.1 + b.2.2.1), ())
def addS (a b : Sm) : Sm :=
  if b.1 > 0 ∧ (a.1 = 0 ∨ b.2.2.1 > a.2.2.1) then (w64 (a.1 + b.1), addD a.2.1 b.2.1, b.2.2.1, w64 (a.1 + b.2.2.2.1), ())
  else (w64 (a.1 + b.1), addD a.2.1 b.2.1, a.2.2.1, a.2.2.2.1, ())
def allS (l : List Itm) : Sm := l.foldl (fun s x => addS s (ofI x)) zS
def sumOf : Nd → Sm
  | .nil => zS
  | .leaf a => a.2.1
  | .inner _ b => b.2.1
def heightOf : Nd → Int
  | .nil => 0
  | .leaf _ => 1
  | .inner _ b => b.1
def sums (ks : List Nd) : Sm := ks.foldl (fun s k => addS s (sumOf k)) zS
def mkLf (l : List Itm) : Lf := (l, allS l, ())
def mkLeaf (l : List Itm) : Nd := .leaf (mkLf l)
def mkNx (ks : List Nd) : Nx := (w64 (heightOf (ks.getD 0 .nil) + 1), sums ks, ())
def mkInner (ks : List Nd) : Nd := .inner ks (mkNx ks)
def spread (l : List Itm) : List Nd := if l.length ≤ 8 then [mkLeaf l] else [mkLeaf (l.take (l.length / 2)), mkLeaf (l.drop (l.length / 2))]
def raise (ks : List Nd) : List Nd := if ks.length ≤ 8 then [mkInner ks] else [mkInner (ks.take (ks.length / 2)), mkInner (ks.drop (ks.length / 2))]
def kidsOf : Nd → List Nd
  | .inner ks _ => ks
  | _ => []
def itemsOf : Nd → List Itm
  | .leaf a => a.1
  | _ => []
def meldF : Nat → Nd → Nd → List Nd
  | 0, _, _ => []
  | n + 1, a, b =>
    if heightOf a > heightOf b then raise ((kidsOf a).take ((kidsOf a).length - 1) ++ meldF n ((kidsOf a).getD ((kidsOf a).length - 1) .nil) b)
    else if heightOf a < heightOf b then raise (meldF n a ((kidsOf b).getD 0 .nil) ++ (kidsOf b).drop 1)
    else if (NT.asLeaf a).isSome = true then spread (itemsOf a ++ itemsOf b) else raise (kidsOf a ++ kidsOf b)
def meld (a b : Nd) : List Nd := meldF ((heightOf a).toNat + (heightOf b).toNat) a b
def Wf : Nat → Bool → Nd → Prop
  | 0, _, _ => False
  | _ + 1, _, .nil => False
  | h + 1, top, .leaf a => h = 0 ∧ (if top = true then 1 else 4) ≤ a.1.length ∧ a.1.length ≤ 8 ∧ a.2.1 = allS a.1
  | h + 1, top, .inner ks b => 1 ≤ h ∧ (if top = true then 2 else 4) ≤ ks.length ∧ ks.length ≤ 8 ∧ b.1 = ((h + 1 : Nat) : Int) ∧ b.2.1 = sums ks ∧ ∀ k ∈ ks, Wf h false k
def WfN (n : Nd) : Prop := n = .nil ∨ ∃ h : Nat, h ≤ 100 ∧ Wf h true n
def join (a b : Nd) : Nd :=
  if NT.isNil a = true then b else if NT.isNil b = true then a else if (meld a b).length = 1 then (meld a b).getD 0 .nil else mkInner (meld a b)
def rowN (ks : List Nd) : Nd := if ks.length = 0 then .nil else if ks.length = 1 then ks.getD 0 .nil else mkInner ks
def itemsF : Nat → Nd → List Itm
  | 0, _ => []
  | n + 1, x => match x with
    | .nil => []
    | .leaf a => a.1
    | .inner ks _ => ks.flatMap (itemsF n)
def items (n : Nd) : List Itm := itemsF 101 n
abbrev Tre := Option (Nd × Unit)
def topT (t : Tre) : Nd := match t with | none => .nil | some t => t.1
def build (l : List Itm) : Nat → Nd
  | 0 => .nil
  | k + 1 => join (build l k) (mkLeaf ((l.drop (8 * k)).take 8))
def buildT (l : List Itm) : Nd := build l ((l.length + 7) / 8)
def newT (l : List Itm) : Tre × Int × Unit := if l.length > 30000 then (none, 5, ()) else if (l.all fun x => decide (checkI x = 0)) = true then (some (buildT l, ()), 0, ()) else (none, 1, ())
def cWithinN : Contract := { arg := .pair t3 .unit, res := .bool, one := true, pre := fun _ => True, fn := fun x => withinN x.1 }
def cCheck : Contract := { arg := .pair t89 .unit, res := t28, one := true, pre := fun _ => True, fn := fun x => checkI x.1 }
def cOfI : Contract := { arg := .pair t89 .unit, res := t82, one := true, pre := fun _ => True, fn := fun x => ofI x.1 }
def cAddS : Contract := { arg := .pair t82 (.pair t82 .unit), res := t82, one := true, pre := fun _ => True, fn := fun x => addS x.1 x.2.1 }
def cAllS : Contract := { arg := .pair t75 .unit, res := t82, one := true, pre := fun x => x.1.length ≤ maxLen, fn := fun x => allS x.1 }
def cSumOf : Contract := { arg := .pair t116 .unit, res := t82, one := true, pre := fun _ => True, fn := fun x => sumOf x.1 }
def cHeightOf : Contract := { arg := .pair t116 .unit, res := t3, one := true, pre := fun _ => True, fn := fun x => heightOf x.1 }
def cLeafOf : Contract := { arg := .pair t75 .unit, res := t119, one := true, pre := fun x => x.1.length ≤ maxLen, fn := fun x => some (mkLf x.1) }
def cInnerOf : Contract := { arg := .pair t130 .unit, res := t128, one := true, pre := fun x => 1 ≤ x.1.length ∧ x.1.length ≤ maxLen, fn := fun x => some (x.1, mkNx x.1) }
def cRaise : Contract := { arg := .pair t130 .unit, res := t130, one := true, pre := fun x => 1 ≤ x.1.length ∧ x.1.length ≤ 100000, fn := fun x => raise x.1 }
def cPut : Contract := { arg := .pair t130 (.pair t130 .unit), res := t130, one := true, pre := fun x => x.1.length ≤ 100000 ∧ x.2.1.length ≤ 100000, fn := fun x => x.1 ++ x.2.1 }
def cSpread : Contract := { arg := .pair t75 .unit, res := t130, one := true, pre := fun x => x.1.length ≤ 100000, fn := fun x => spread x.1 }
def muMeld (x : Nd × Nd × Unit) : Nat := (heightOf x.1).toNat + (heightOf x.2.1).toNat
def cMeld : Contract := { arg := .pair t116 (.pair t116 .unit), res := t130, one := true, pre := fun x => ∃ h k : Nat, h ≤ 100 ∧ k ≤ 100 ∧ Wf h true x.1 ∧ Wf k true x.2.1, fn := fun x => meld x.1 x.2.1 }
def cJoin : Contract := { arg := .pair t116 (.pair t116 .unit), res := t116, one := true, pre := fun x => WfN x.1 ∧ WfN x.2.1, fn := fun x => join x.1 x.2.1 }
def cRowN : Contract := { arg := .pair t130 .unit, res := t116, one := true, pre := fun x => x.1.length ≤ 100000, fn := fun x => rowN x.1 }
def cTop : Contract := { arg := .pair t72 .unit, res := t116, one := true, pre := fun _ => True, fn := fun x => topT x.1 }
def cSum : Contract := { arg := .pair t72 .unit, res := t82, one := true, pre := fun _ => True, fn := fun x => sumOf (topT x.1) }
def cHeightT : Contract := { arg := .pair t72 .unit, res := t3, one := true, pre := fun _ => True, fn := fun x => heightOf (topT x.1) }
def cTreeNew : Contract := { arg := .pair t75 .unit, res := .pair t72 (.pair t28 .unit), one := false, pre := fun x => x.1.length ≤ 100000, fn := fun x => newT x.1 }
def cItems : Contract := { arg := .pair t72 .unit, res := t75, one := true, pre := fun x => (topT x.1 = .nil ∨ ∃ h : Nat, h ≤ 3 ∧ Wf h true (topT x.1)) ∧ (items (topT x.1)).length ≤ 100000, fn := fun x => items (topT x.1) }
end Go.Fr.C14
namespace Go.Fr.C14
open Go Go.Fr Go.Proofs
set_option maxRecDepth 100000
def hs9 : List (Nat × Nat × Hint) := [(0, 8, ⟨[.slot 30 t3, .cell 27 0 (mapT t3 t62), .rowC 26 1 900000001 t57 57], [0, 6, 7, 28, 29], [27, 26], []⟩)]
def nm9 : List Nat := [2000000025, 3000000024, 3000000071, 3000000095, 4000000018]
noncomputable def E9 : Env := envR tab [(22, cWrong), (23, cClean), (25, cOrder)] [] gl hs9 nm9 [(24, rSort)]
def vc9 : Prop :=
 ∀ (x : Int × List Inl × Unit),
 List.length x.snd.fst ≤ maxLen ∧ shortL x.snd.fst →
 (decide (x.fst < (0 : Int)) = true → (none, (1 : Int), ()) = newI x.fst x.snd.fst) ∧
 (decide (x.fst < (0 : Int)) = false →
 (decide (x.fst > (1099511627776 : Int)) = true → (none, (1 : Int), ()) = newI x.fst x.snd.fst) ∧
 (decide (x.fst > (1099511627776 : Int)) = false →
 (decide ((↑(List.length x.snd.fst) : Int) > (60 : Int)) = true →
 (none, (5 : Int), ()) = newI x.fst x.snd.fst) ∧
 (decide ((↑(List.length x.snd.fst) : Int) > (60 : Int)) = false →
 (((0 : Int) = (0 : Int) ∧
 x.fst = x.fst ∧
 True ∧
 True ∧
 x.snd.fst = x.snd.fst ∧
 (↑(List.length x.snd.fst) : Int) = (↑(List.length x.snd.fst) : Int)) ∧
 ((([] : List (Int × Unit × Unit)) = [] ∧ True) ∧ x.fst = x.fst ∧ True) ∧ True ∧ True) ∧
 ∃ (Z :
 Int × List (Int × Unit × Unit) × List Inl × Unit → Prop),
 ∃ (μ :
 Int × List (Int × Unit × Unit) × List Inl × Unit → Nat),
 Z ((0 : Int), [], [], ()) ∧
 ∀ (a : Int) (a_1 : List (Int × Unit × Unit))
 (a_2 : List Inl),
 Z (a, a_1, a_2, ()) →
 (decide (a < (↑(List.length x.snd.fst) : Int)) = true →
 ((0 : Int) ≤ a ∧ a < (↑(List.length x.snd.fst) : Int)) ∧
 ByteArray.size (txt (List.getD x.snd.fst (Int.toNat a) (Ty.dflt t57))) ≤ maxLen ∧
 ((wrongI x.fst (List.getD x.snd.fst (Int.toNat a) (Ty.dflt t57)) != (0 : Int)) =
 true →
 (none, wrongI x.fst (List.getD x.snd.fst (Int.toNat a) (Ty.dflt t57)), ()) =
 newI x.fst x.snd.fst) ∧
 ((wrongI x.fst (List.getD x.snd.fst (Int.toNat a) (Ty.dflt t57)) != (0 : Int)) =
 false →
 (Option.isSome
 (mget t3 t62 (List.getD x.snd.fst (Int.toNat a) (Ty.dflt t57)).fst
 a_1) =
 true →
 (none, (8 : Int), ()) = newI x.fst x.snd.fst) ∧
 (Option.isSome
 (mget t3 t62 (List.getD x.snd.fst (Int.toNat a) (Ty.dflt t57)).fst
 a_1) =
 false →
 mget t3 t62 (List.getD x.snd.fst (Int.toNat a) (Ty.dflt t57)).fst a_1 =
 none ∧
 ByteArray.size
 (List.getD x.snd.fst (Int.toNat a)
 (Ty.dflt t57)).snd.snd.snd.snd.fst ≤
 (100000000 : Nat) ∧
 ((List.length a_2 +
 List.length
 [((List.getD x.snd.fst (Int.toNat a) (Ty.dflt t57)).fst,
 (List.getD x.snd.fst (Int.toNat a)
 (Ty.dflt t57)).snd.fst,
 (List.getD x.snd.fst (Int.toNat a)
 (Ty.dflt t57)).snd.snd.fst,
 (List.getD x.snd.fst (Int.toNat a)
 (Ty.dflt t57)).snd.snd.snd.fst,
 clean
 (List.getD x.snd.fst (Int.toNat a)
 (Ty.dflt t57)).snd.snd.snd.snd.fst,
 ())]) *
 (48 : Nat) ≤
 (140737488355328 : Nat) ∧
 List.length a_2 +
 List.length
 [((List.getD x.snd.fst (Int.toNat a) (Ty.dflt t57)).fst,
 (List.getD x.snd.fst (Int.toNat a)
 (Ty.dflt t57)).snd.fst,
 (List.getD x.snd.fst (Int.toNat a)
 (Ty.dflt t57)).snd.snd.fst,
 (List.getD x.snd.fst (Int.toNat a)
 (Ty.dflt t57)).snd.snd.snd.fst,
 clean
 (List.getD x.snd.fst (Int.toNat a)
 (Ty.dflt t57)).snd.snd.snd.snd.fst,
 ())] ≤
 maxLen ∧
 ((IntKind.wrap IntKind.i64 (a + (1 : Int)) =
 IntKind.wrap IntKind.i64 (a + (1 : Int)) ∧
 x.fst = x.fst ∧
 True ∧
 True ∧
 x.snd.fst = x.snd.fst ∧
 (↑(List.length x.snd.fst) : Int) =
 (↑(List.length x.snd.fst) : Int)) ∧
 ((a_1 ++
 [((List.getD x.snd.fst (Int.toNat a)
 (Ty.dflt t57)).fst,
 (), ())] =
 a_1 ++
 [((List.getD x.snd.fst (Int.toNat a)
 (Ty.dflt t57)).fst,
 (), ())] ∧
 True) ∧
 x.fst = x.fst ∧ True) ∧
 a_2 ++
 [((List.getD x.snd.fst (Int.toNat a)
 (Ty.dflt t57)).fst,
 (List.getD x.snd.fst (Int.toNat a)
 (Ty.dflt t57)).snd.fst,
 (List.getD x.snd.fst (Int.toNat a)
 (Ty.dflt t57)).snd.snd.fst,
 (List.getD x.snd.fst (Int.toNat a)
 (Ty.dflt t57)).snd.snd.snd.fst,
 clean
 (List.getD x.snd.fst (Int.toNat a)
 (Ty.dflt t57)).snd.snd.snd.snd.fst,
 ())] =
 a_2 ++
 [((List.getD x.snd.fst (Int.toNat a)
 (Ty.dflt t57)).fst,
 (List.getD x.snd.fst (Int.toNat a)
 (Ty.dflt t57)).snd.fst,
 (List.getD x.snd.fst (Int.toNat a)
 (Ty.dflt t57)).snd.snd.fst,
 (List.getD x.snd.fst (Int.toNat a)
 (Ty.dflt t57)).snd.snd.snd.fst,
 clean
 (List.getD x.snd.fst (Int.toNat a)
 (Ty.dflt t57)).snd.snd.snd.snd.fst,
 ())] ∧
 True) ∧
 Z
 (IntKind.wrap IntKind.i64 (a + (1 : Int)),
 a_1 ++
 [((List.getD x.snd.fst (Int.toNat a) (Ty.dflt t57)).fst,
 (), ())],
 a_2 ++
 [((List.getD x.snd.fst (Int.toNat a) (Ty.dflt t57)).fst,
 (List.getD x.snd.fst (Int.toNat a)
 (Ty.dflt t57)).snd.fst,
 (List.getD x.snd.fst (Int.toNat a)
 (Ty.dflt t57)).snd.snd.fst,
 (List.getD x.snd.fst (Int.toNat a)
 (Ty.dflt t57)).snd.snd.snd.fst,
 clean
 (List.getD x.snd.fst (Int.toNat a)
 (Ty.dflt t57)).snd.snd.snd.snd.fst,
 ())],
 ()) ∧
 μ
 (IntKind.wrap IntKind.i64 (a + (1 : Int)),
 a_1 ++
 [((List.getD x.snd.fst (Int.toNat a)
 (Ty.dflt t57)).fst,
 (), ())],
 a_2 ++
 [((List.getD x.snd.fst (Int.toNat a)
 (Ty.dflt t57)).fst,
 (List.getD x.snd.fst (Int.toNat a)
 (Ty.dflt t57)).snd.fst,
 (List.getD x.snd.fst (Int.toNat a)
 (Ty.dflt t57)).snd.snd.fst,
 (List.getD x.snd.fst (Int.toNat a)
 (Ty.dflt t57)).snd.snd.snd.fst,
 clean
 (List.getD x.snd.fst (Int.toNat a)
 (Ty.dflt t57)).snd.snd.snd.snd.fst,
 ())],
 ()) <
 μ (a, a_1, a_2, ())) ∧
 ((List.length a_2 +
 List.length
 [((List.getD x.snd.fst (Int.toNat a) (Ty.dflt t57)).fst,
 (List.getD x.snd.fst (Int.toNat a)
 (Ty.dflt t57)).snd.fst,
 (List.getD x.snd.fst (Int.toNat a)
 (Ty.dflt t57)).snd.snd.fst,
 (List.getD x.snd.fst (Int.toNat a)
 (Ty.dflt t57)).snd.snd.snd.fst,
 clean
 (List.getD x.snd.fst (Int.toNat a)
 (Ty.dflt t57)).snd.snd.snd.snd.fst,
 ())]) *
 (48 : Nat) ≤
 (140737488355328 : Nat) ∧
 List.length a_2 +
 List.length
 [((List.getD x.snd.fst (Int.toNat a) (Ty.dflt t57)).fst,
 (List.getD x.snd.fst (Int.toNat a)
 (Ty.dflt t57)).snd.fst,
 (List.getD x.snd.fst (Int.toNat a)
 (Ty.dflt t57)).snd.snd.fst,
 (List.getD x.snd.fst (Int.toNat a)
 (Ty.dflt t57)).snd.snd.snd.fst,
 clean
 (List.getD x.snd.fst (Int.toNat a)
 (Ty.dflt t57)).snd.snd.snd.snd.fst,
 ())] ≤
 maxLen ∧
 ((IntKind.wrap IntKind.i64 (a + (1 : Int)) =
 IntKind.wrap IntKind.i64 (a + (1 : Int)) ∧
 x.fst = x.fst ∧
 True ∧
 True ∧
 x.snd.fst = x.snd.fst ∧
 (↑(List.length x.snd.fst) : Int) =
 (↑(List.length x.snd.fst) : Int)) ∧
 ((a_1 ++
 [((List.getD x.snd.fst (Int.toNat a)
 (Ty.dflt t57)).fst,
 (), ())] =
 a_1 ++
 [((List.getD x.snd.fst (Int.toNat a)
 (Ty.dflt t57)).fst,
 (), ())] ∧
 True) ∧
 x.fst = x.fst ∧ True) ∧
 a_2 ++
 [((List.getD x.snd.fst (Int.toNat a)
 (Ty.dflt t57)).fst,
 (List.getD x.snd.fst (Int.toNat a)
 (Ty.dflt t57)).snd.fst,
 (List.getD x.snd.fst (Int.toNat a)
 (Ty.dflt t57)).snd.snd.fst,
 (List.getD x.snd.fst (Int.toNat a)
 (Ty.dflt t57)).snd.snd.snd.fst,
 clean
 (List.getD x.snd.fst (Int.toNat a)
 (Ty.dflt
 t57)).snd.snd.snd.snd.fst,
 ())] =
 a_2 ++
 [((List.getD x.snd.fst (Int.toNat a)
 (Ty.dflt t57)).fst,
 (List.getD x.snd.fst (Int.toNat a)
 (Ty.dflt t57)).snd.fst,
 (List.getD x.snd.fst (Int.toNat a)
 (Ty.dflt t57)).snd.snd.fst,
 (List.getD x.snd.fst (Int.toNat a)
 (Ty.dflt t57)).snd.snd.snd.fst,
 clean
 (List.getD x.snd.fst (Int.toNat a)
 (Ty.dflt
 t57)).snd.snd.snd.snd.fst,
 ())] ∧
 True) ∧
 Z
 (IntKind.wrap IntKind.i64 (a + (1 : Int)),
 a_1 ++
 [((List.getD x.snd.fst (Int.toNat a)
 (Ty.dflt t57)).fst,
 (), ())],
 a_2 ++
 [((List.getD x.snd.fst (Int.toNat a)
 (Ty.dflt t57)).fst,
 (List.getD x.snd.fst (Int.toNat a)
 (Ty.dflt t57)).snd.fst,
 (List.getD x.snd.fst (Int.toNat a)
 (Ty.dflt t57)).snd.snd.fst,
 (List.getD x.snd.fst (Int.toNat a)
 (Ty.dflt t57)).snd.snd.snd.fst,
 clean
 (List.getD x.snd.fst (Int.toNat a)
 (Ty.dflt t57)).snd.snd.snd.snd.fst,
 ())],
 ()) ∧
 μ
 (IntKind.wrap IntKind.i64 (a + (1 : Int)),
 a_1 ++
 [((List.getD x.snd.fst (Int.toNat a)
 (Ty.dflt t57)).fst,
 (), ())],
 a_2 ++
 [((List.getD x.snd.fst (Int.toNat a)
 (Ty.dflt t57)).fst,
 (List.getD x.snd.fst (Int.toNat a)
 (Ty.dflt t57)).snd.fst,
 (List.getD x.snd.fst (Int.toNat a)
 (Ty.dflt t57)).snd.snd.fst,
 (List.getD x.snd.fst (Int.toNat a)
 (Ty.dflt t57)).snd.snd.snd.fst,
 clean
 (List.getD x.snd.fst (Int.toNat a)
 (Ty.dflt
 t57)).snd.snd.snd.snd.fst,
 ())],
 ()) <
 μ (a, a_1, a_2, ())) ∧
 (List.length a_2 +
 List.length
 [((List.getD x.snd.fst (Int.toNat a) (Ty.dflt t57)).fst,
 (List.getD x.snd.fst (Int.toNat a)
 (Ty.dflt t57)).snd.fst,
 (List.getD x.snd.fst (Int.toNat a)
 (Ty.dflt t57)).snd.snd.fst,
 (List.getD x.snd.fst (Int.toNat a)
 (Ty.dflt t57)).snd.snd.snd.fst,
 clean
 (List.getD x.snd.fst (Int.toNat a)
 (Ty.dflt t57)).snd.snd.snd.snd.fst,
 ())]) *
 (48 : Nat) ≤
 (140737488355328 : Nat) ∧
 List.length a_2 +
 List.length
 [((List.getD x.snd.fst (Int.toNat a) (Ty.dflt t57)).fst,
 (List.getD x.snd.fst (Int.toNat a)
 (Ty.dflt t57)).snd.fst,
 (List.getD x.snd.fst (Int.toNat a)
 (Ty.dflt t57)).snd.snd.fst,
 (List.getD x.snd.fst (Int.toNat a)
 (Ty.dflt t57)).snd.snd.snd.fst,
 clean
 (List.getD x.snd.fst (Int.toNat a)
 (Ty.dflt t57)).snd.snd.snd.snd.fst,
 ())] ≤
 maxLen ∧
 ((IntKind.wrap IntKind.i64 (a + (1 : Int)) =
 IntKind.wrap IntKind.i64 (a + (1 : Int)) ∧
 x.fst = x.fst ∧
 True ∧
 True ∧
 x.snd.fst = x.snd.fst ∧
 (↑(List.length x.snd.fst) : Int) =
 (↑(List.length x.snd.fst) : Int)) ∧
 ((a_1 ++
 [((List.getD x.snd.fst (Int.toNat a)
 (Ty.dflt t57)).fst,
 (), ())] =
 a_1 ++
 [((List.getD x.snd.fst (Int.toNat a)
 (Ty.dflt t57)).fst,
 (), ())] ∧
 True) ∧
 x.fst = x.fst ∧ True) ∧
 a_2 ++
 [((List.getD x.snd.fst (Int.toNat a)
 (Ty.dflt t57)).fst,
 (List.getD x.snd.fst (Int.toNat a)
 (Ty.dflt t57)).snd.fst,
 (List.getD x.snd.fst (Int.toNat a)
 (Ty.dflt t57)).snd.snd.fst,
 (List.getD x.snd.fst (Int.toNat a)
 (Ty.dflt t57)).snd.snd.snd.fst,
 clean
 (List.getD x.snd.fst (Int.toNat a)
 (Ty.dflt
 t57)).snd.snd.snd.snd.fst,
 ())] =
 a_2 ++
 [((List.getD x.snd.fst (Int.toNat a)
 (Ty.dflt t57)).fst,
 (List.getD x.snd.fst (Int.toNat a)
 (Ty.dflt t57)).snd.fst,
 (List.getD x.snd.fst (Int.toNat a)
 (Ty.dflt t57)).snd.snd.fst,
 (List.getD x.snd.fst (Int.toNat a)
 (Ty.dflt t57)).snd.snd.snd.fst,
 clean
 (List.getD x.snd.fst (Int.toNat a)
 (Ty.dflt
 t57)).snd.snd.snd.snd.fst,
 ())] ∧
 True) ∧
 Z
 (IntKind.wrap IntKind.i64 (a + (1 : Int)),
 a_1 ++
 [((List.getD x.snd.fst (Int.toNat a)
 (Ty.dflt t57)).fst,
 (), ())],
 a_2 ++
 [((List.getD x.snd.fst (Int.toNat a)
 (Ty.dflt t57)).fst,
 (List.getD x.snd.fst (Int.toNat a)
 (Ty.dflt t57)).snd.fst,
 (List.getD x.snd.fst (Int.toNat a)
 (Ty.dflt t57)).snd.snd.fst,
 (List.getD x.snd.fst (Int.toNat a)
 (Ty.dflt t57)).snd.snd.snd.fst,
 clean
 (List.getD x.snd.fst (Int.toNat a)
 (Ty.dflt t57)).snd.snd.snd.snd.fst,
 ())],
 ()) ∧
 μ
 (IntKind.wrap IntKind.i64 (a + (1 : Int)),
 a_1 ++
 [((List.getD x.snd.fst (Int.toNat a)
 (Ty.dflt t57)).fst,
 (), ())],
 a_2 ++
 [((List.getD x.snd.fst (Int.toNat a)
 (Ty.dflt t57)).fst,
 (List.getD x.snd.fst (Int.toNat a)
 (Ty.dflt t57)).snd.fst,
 (List.getD x.snd.fst (Int.toNat a)
 (Ty.dflt t57)).snd.snd.fst,
 (List.getD x.snd.fst (Int.toNat a)
 (Ty.dflt t57)).snd.snd.snd.fst,
 clean
 (List.getD x.snd.fst (Int.toNat a)
 (Ty.dflt
 t57)).snd.snd.snd.snd.fst,
 ())],
 ()) <
 μ (a, a_1, a_2, ())))) ∧
 (decide (a < (↑(List.length x.snd.fst) : Int)) = false →
 List.length a_2 ≤ (100000 : Nat) ∧
 ∀ (ys : List Inl),
 List.Perm ys a_2 ∧ List.Pairwise (fun (a b : Inl) ↦ ¬cmpL b a < (0 : Int)) ys →
 (some (x.fst, ys, ()), (0 : Int), ()) = newI x.fst x.snd.fst))))
theorem vcEq9 : fnVC E9 Tryd.f9 (bodyOf Tryd.f9) cNew = vc9 := by kernel_rfl
def hsO33 : List (Nat × Nat × Hint) := []
def nmO33 : List Nat := [3000000024, 3000000071, 3000000095]
noncomputable def EO33 : Env := envR tab [(63, cCloneO)] [] gl hsO33 nmO33 []
def vcO33 : Prop :=
 ∀ (x : Option (Int × List Inl × Unit) × Unit),
 List.length (allI x.fst) ≤ (10000 : Nat) →
 (Option.isNone x.fst = true → [] = allI x.fst) ∧
 (Option.isNone x.fst = false →
 Option.isSome x.fst = true ∧
 List.length (List.getD (optL x.fst) (0 : Nat) (Ty.dflt t59)).snd.fst ≤ (10000 : Nat) ∧
 (List.getD (optL x.fst) (0 : Nat) (Ty.dflt t59)).snd.fst = allI x.fst)
theorem vcEqO33 : fnVCO EO33 Tryd.f33 (bodyOf Tryd.f33) cAllO = vcO33 := by kernel_rfl
def hs44 : List (Nat × Nat × Hint) := [(720011, 5, ⟨[.rowN 8 t57 57, .slot 720016 t3, .slot 720017 t3], [720011, 720012, 6], [4, 5], []⟩),
  (1680053, 2, ⟨[.slot 1680061 t3], [1680053, 1680054, 1680060, 720011, 720012, 720016, 6], [720018, 4, 5], [8]⟩)]
def nm44 : List Nat := [2000720049, 2000720052, 3000000024, 3000000071, 3000000095]
noncomputable def E44 : Env := env tab [(33, cAllO)] [(72, Tryd.f72), (71, Tryd.f71), (95, Tryd.f95)] gl hs44 nm44
def vc44 : Prop :=
 ∀ (x : Option (Int × List Inl × Unit) × Int × Int × Unit),
 List.length (allI x.fst) ≤ (10000 : Nat) →
 List.length (allI x.fst) ≤ (10000 : Nat) ∧
 (((0 : Int) = (0 : Int) ∧
 True ∧
 (True ∧ True) ∧
 (↑(List.length (allI x.fst)) : Int) = (↑(List.length (allI x.fst)) : Int) ∧
 True ∧
 (True ∧ True) ∧
 True ∧ Value.slice none (0 : Nat) (0 : Nat) = Value.slice none (0 : Nat) (0 : Nat)) ∧
 (x.snd.fst = x.snd.fst ∧ x.snd.snd.fst = x.snd.snd.fst) ∧ allI x.fst = allI x.fst ∧ True) ∧
 ∃ (Z : Int × Unit → Prop),
 ∃ (μ : Int × Unit → Nat),
 Z ((0 : Int), ()) ∧
 ∀ (a : Int),
 Z (a, ()) →
 (decide (a < (↑(List.length (allI x.fst)) : Int)) = true →
 ((0 : Int) ≤ a ∧ a < (↑(List.length (allI x.fst)) : Int)) ∧
 (decide ((List.getD (allI x.fst) (Int.toNat a) (Ty.dflt t57)).snd.fst < x.snd.fst) = true →
 ((a == (-1 : Int)) = true →
 allI x.fst = List.filter (inI x.snd.fst x.snd.snd.fst) (allI x.fst)) ∧
 ((a == (-1 : Int)) = false →
 ((IntKind.wrap IntKind.i64 (a + (1 : Int)) = IntKind.wrap IntKind.i64 (a + (1 : Int)) ∧
 a = a ∧
 True ∧
 (True ∧ True) ∧
 Value.slice none (0 : Nat) (0 : Nat) =
 Value.slice none (0 : Nat) (0 : Nat)) ∧
 (x.snd.fst = x.snd.fst ∧ x.snd.snd.fst = x.snd.snd.fst) ∧
 allI x.fst = allI x.fst ∧ True) ∧
 ∃ (Z : List Inl × Int × Int × Unit → Prop),
 ∃ (μ : List Inl × Int × Int × Unit → Nat),
 Z (allI x.fst, a, IntKind.wrap IntKind.i64 (a + (1 : Int)), ()) ∧
 ∀ (a : List Inl) (a_5 a_6 : Int),
 Z (a, a_5, a_6, ()) →
 (decide (a_6 < (↑(List.length a) : Int)) = true →
 ((0 : Int) ≤ a_6 ∧ a_6 < (↑(List.length a) : Int)) ∧
 (decide
 ((List.getD a (Int.toNat a_6) (Ty.dflt t57)).snd.fst <
 x.snd.fst) =
 true →
 ((!true) = true →
 ((0 : Int) ≤ a_5 ∧ a_5 < (↑(List.length a) : Int)) ∧
 ((IntKind.wrap IntKind.i64 (a_6 + (1 : Int)) =
 IntKind.wrap IntKind.i64 (a_6 + (1 : Int)) ∧
 IntKind.wrap IntKind.i64 (a_5 + (1 : Int)) =
 IntKind.wrap IntKind.i64 (a_5 + (1 : Int)) ∧
 True ∧
 (True ∧ True) ∧
 Value.slice none (0 : Nat) (0 : Nat) =
 Value.slice none (0 : Nat) (0 : Nat)) ∧
 (x.snd.fst = x.snd.fst ∧
 x.snd.snd.fst = x.snd.snd.fst) ∧
 List.set a (Int.toNat a_5)
 (List.getD a (Int.toNat a_6) (Ty.dflt t57)) =
 List.set a (Int.toNat a_5)
 (List.getD a (Int.toNat a_6) (Ty.dflt t57)) ∧
 True) ∧
 Z
 (List.set a (Int.toNat a_5)
 (List.getD a (Int.toNat a_6) (Ty.dflt t57)),
 IntKind.wrap IntKind.i64 (a_5 + (1 : Int)),
 IntKind.wrap IntKind.i64 (a_6 + (1 : Int)), ()) ∧
 μ
 (List.set a (Int.toNat a_5)
 (List.getD a (Int.toNat a_6) (Ty.dflt t57)),
 IntKind.wrap IntKind.i64 (a_5 + (1 : Int)),
 IntKind.wrap IntKind.i64 (a_6 + (1 : Int)), ()) <
 μ (a, a_5, a_6, ())) ∧
 ((!true) = false →
 ((IntKind.wrap IntKind.i64 (a_6 + (1 : Int)) =
 IntKind.wrap IntKind.i64 (a_6 + (1 : Int)) ∧
 a_5 = a_5 ∧
 True ∧
 (True ∧ True) ∧
 Value.slice none (0 : Nat) (0 : Nat) =
 Value.slice none (0 : Nat) (0 : Nat)) ∧
 (x.snd.fst = x.snd.fst ∧ x.snd.snd.fst = x.snd.snd.fst) ∧
 a = a ∧ True) ∧
 Z (a, a_5, IntKind.wrap IntKind.i64 (a_6 + (1 : Int)), ()) ∧
 μ
 (a, a_5, IntKind.wrap IntKind.i64 (a_6 + (1 : Int)),
 ()) <
 μ (a, a_5, a_6, ()))) ∧
 (decide
 ((List.getD a (Int.toNat a_6) (Ty.dflt t57)).snd.fst <
 x.snd.fst) =
 false →
 ((!decide
 ((List.getD a (Int.toNat a_6) (Ty.dflt t57)).snd.fst >
 x.snd.snd.fst)) =
 true →
 ((0 : Int) ≤ a_5 ∧ a_5 < (↑(List.length a) : Int)) ∧
 ((IntKind.wrap IntKind.i64 (a_6 + (1 : Int)) =
 IntKind.wrap IntKind.i64 (a_6 + (1 : Int)) ∧
 IntKind.wrap IntKind.i64 (a_5 + (1 : Int)) =
 IntKind.wrap IntKind.i64 (a_5 + (1 : Int)) ∧
 True ∧
 (True ∧ True) ∧
 Value.slice none (0 : Nat) (0 : Nat) =
 Value.slice none (0 : Nat) (0 : Nat)) ∧
 (x.snd.fst = x.snd.fst ∧
 x.snd.snd.fst = x.snd.snd.fst) ∧
 List.set a (Int.toNat a_5)
 (List.getD a (Int.toNat a_6) (Ty.dflt t57)) =
 List.set a (Int.toNat a_5)
 (List.getD a (Int.toNat a_6) (Ty.dflt t57)) ∧
 True) ∧
 Z
 (List.set a (Int.toNat a_5)
 (List.getD a (Int.toNat a_6) (Ty.dflt t57)),
 IntKind.wrap IntKind.i64 (a_5 + (1 : Int)),
 IntKind.wrap IntKind.i64 (a_6 + (1 : Int)), ()) ∧
 μ
 (List.set a (Int.toNat a_5)
 (List.getD a (Int.toNat a_6) (Ty.dflt t57)),
 IntKind.wrap IntKind.i64 (a_5 + (1 : Int)),
 IntKind.wrap IntKind.i64 (a_6 + (1 : Int)), ()) <
 μ (a, a_5, a_6, ())) ∧
 ((!decide
 ((List.getD a (Int.toNat a_6) (Ty.dflt t57)).snd.fst >
 x.snd.snd.fst)) =
 false →
 ((IntKind.wrap IntKind.i64 (a_6 + (1 : Int)) =
 IntKind.wrap IntKind.i64 (a_6 + (1 : Int)) ∧
 a_5 = a_5 ∧
 True ∧
 (True ∧ True) ∧
 Value.slice none (0 : Nat) (0 : Nat) =
 Value.slice none (0 : Nat) (0 : Nat)) ∧
 (x.snd.fst = x.snd.fst ∧ x.snd.snd.fst = x.snd.snd.fst) ∧
 a = a ∧ True) ∧
 Z (a, a_5, IntKind.wrap IntKind.i64 (a_6 + (1 : Int)), ()) ∧
 μ
 (a, a_5, IntKind.wrap IntKind.i64 (a_6 + (1 : Int)),
 ()) <
 μ (a, a_5, a_6, ())))) ∧
 (decide (a_6 < (↑(List.length a) : Int)) = false →
 ((0 : Int) ≤ a_5 ∧ a_5 < (↑(List.length a) : Int)) ∧
 ((0 : Int) ≤ a_5 ∧
 a_5 ≤
 (↑(List.length
 (List.take (Int.toNat a_5) a ++
 List.replicate (List.length a - Int.toNat a_5)
 ((0 : Int), (0 : Int), (0 : Int), (0 : Int),
 ByteArray.empty, ()))) :
 Int)) ∧
 List.take (Int.toNat a_5)
 (List.take (Int.toNat a_5) a ++
 List.replicate (List.length a - Int.toNat a_5)
 ((0 : Int), (0 : Int), (0 : Int), (0 : Int),
 ByteArray.empty, ())) =
 List.filter (inI x.snd.fst x.snd.snd.fst) (allI x.fst)))) ∧
 (decide ((List.getD (allI x.fst) (Int.toNat a) (Ty.dflt t57)).snd.fst < x.snd.fst) = false →
 (decide ((List.getD (allI x.fst) (Int.toNat a) (Ty.dflt t57)).snd.fst > x.snd.snd.fst) =
 true →
 ((a == (-1 : Int)) = true →
 allI x.fst = List.filter (inI x.snd.fst x.snd.snd.fst) (allI x.fst)) ∧
 ((a == (-1 : Int)) = false →
 ((IntKind.wrap IntKind.i64 (a + (1 : Int)) =
 IntKind.wrap IntKind.i64 (a + (1 : Int)) ∧
 a = a ∧
 True ∧
 (True ∧ True) ∧
 Value.slice none (0 : Nat) (0 : Nat) =
 Value.slice none (0 : Nat) (0 : Nat)) ∧
 (x.snd.fst = x.snd.fst ∧ x.snd.snd.fst = x.snd.snd.fst) ∧
 allI x.fst = allI x.fst ∧ True) ∧
 ∃ (Z : List Inl × Int × Int × Unit → Prop),
 ∃ (μ :
 List Inl × Int × Int × Unit → Nat),
 Z (allI x.fst, a, IntKind.wrap IntKind.i64 (a + (1 : Int)), ()) ∧
 ∀ (a : List Inl) (a_6 a_7 : Int),
 Z (a, a_6, a_7, ()) →
 (decide (a_7 < (↑(List.length a) : Int)) = true →
 ((0 : Int) ≤ a_7 ∧ a_7 < (↑(List.length a) : Int)) ∧
 (decide
 ((List.getD a (Int.toNat a_7) (Ty.dflt t57)).snd.fst <
 x.snd.fst) =
 true →
 ((!true) = true →
 ((0 : Int) ≤ a_6 ∧ a_6 < (↑(List.length a) : Int)) ∧
 ((IntKind.wrap IntKind.i64 (a_7 + (1 : Int)) =
 IntKind.wrap IntKind.i64 (a_7 + (1 : Int)) ∧
 IntKind.wrap IntKind.i64 (a_6 + (1 : Int)) =
 IntKind.wrap IntKind.i64 (a_6 + (1 : Int)) ∧
 True ∧
 (True ∧ True) ∧
 Value.slice none (0 : Nat) (0 : Nat) =
 Value.slice none (0 : Nat) (0 : Nat)) ∧
 (x.snd.fst = x.snd.fst ∧
 x.snd.snd.fst = x.snd.snd.fst) ∧
 List.set a (Int.toNat a_6)
 (List.getD a (Int.toNat a_7)
 (Ty.dflt t57)) =
 List.set a (Int.toNat a_6)
 (List.getD a (Int.toNat a_7)
 (Ty.dflt t57)) ∧
 True) ∧
 Z
 (List.set a (Int.toNat a_6)
 (List.getD a (Int.toNat a_7) (Ty.dflt t57)),
 IntKind.wrap IntKind.i64 (a_6 + (1 : Int)),
 IntKind.wrap IntKind.i64 (a_7 + (1 : Int)),
 ()) ∧
 μ
 (List.set a (Int.toNat a_6)
 (List.getD a (Int.toNat a_7) (Ty.dflt t57)),
 IntKind.wrap IntKind.i64 (a_6 + (1 : Int)),
 IntKind.wrap IntKind.i64 (a_7 + (1 : Int)),
 ()) <
 μ (a, a_6, a_7, ())) ∧
 ((!true) = false →
 ((IntKind.wrap IntKind.i64 (a_7 + (1 : Int)) =
 IntKind.wrap IntKind.i64 (a_7 + (1 : Int)) ∧
 a_6 = a_6 ∧
 True ∧
 (True ∧ True) ∧
 Value.slice none (0 : Nat) (0 : Nat) =
 Value.slice none (0 : Nat) (0 : Nat)) ∧
 (x.snd.fst = x.snd.fst ∧
 x.snd.snd.fst = x.snd.snd.fst) ∧
 a = a ∧ True) ∧
 Z
 (a, a_6, IntKind.wrap IntKind.i64 (a_7 + (1 : Int)),
 ()) ∧
 μ
 (a, a_6,
 IntKind.wrap IntKind.i64 (a_7 + (1 : Int)),
 ()) <
 μ (a, a_6, a_7, ()))) ∧
 (decide
 ((List.getD a (Int.toNat a_7) (Ty.dflt t57)).snd.fst <
 x.snd.fst) =
 false →
 ((!decide
 ((List.getD a (Int.toNat a_7)
 (Ty.dflt t57)).snd.fst >
 x.snd.snd.fst)) =
 true →
 ((0 : Int) ≤ a_6 ∧ a_6 < (↑(List.length a) : Int)) ∧
 ((IntKind.wrap IntKind.i64 (a_7 + (1 : Int)) =
 IntKind.wrap IntKind.i64 (a_7 + (1 : Int)) ∧
 IntKind.wrap IntKind.i64 (a_6 + (1 : Int)) =
 IntKind.wrap IntKind.i64 (a_6 + (1 : Int)) ∧
 True ∧
 (True ∧ True) ∧
 Value.slice none (0 : Nat) (0 : Nat) =
 Value.slice none (0 : Nat) (0 : Nat)) ∧
 (x.snd.fst = x.snd.fst ∧
 x.snd.snd.fst = x.snd.snd.fst) ∧
 List.set a (Int.toNat a_6)
 (List.getD a (Int.toNat a_7)
 (Ty.dflt t57)) =
 List.set a (Int.toNat a_6)
 (List.getD a (Int.toNat a_7)
 (Ty.dflt t57)) ∧
 True) ∧
 Z
 (List.set a (Int.toNat a_6)
 (List.getD a (Int.toNat a_7) (Ty.dflt t57)),
 IntKind.wrap IntKind.i64 (a_6 + (1 : Int)),
 IntKind.wrap IntKind.i64 (a_7 + (1 : Int)),
 ()) ∧
 μ
 (List.set a (Int.toNat a_6)
 (List.getD a (Int.toNat a_7) (Ty.dflt t57)),
 IntKind.wrap IntKind.i64 (a_6 + (1 : Int)),
 IntKind.wrap IntKind.i64 (a_7 + (1 : Int)),
 ()) <
 μ (a, a_6, a_7, ())) ∧
 ((!decide
 ((List.getD a (Int.toNat a_7)
 (Ty.dflt t57)).snd.fst >
 x.snd.snd.fst)) =
 false →
 ((IntKind.wrap IntKind.i64 (a_7 + (1 : Int)) =
 IntKind.wrap IntKind.i64 (a_7 + (1 : Int)) ∧
 a_6 = a_6 ∧
 True ∧
 (True ∧ True) ∧
 Value.slice none (0 : Nat) (0 : Nat) =
 Value.slice none (0 : Nat) (0 : Nat)) ∧
 (x.snd.fst = x.snd.fst ∧
 x.snd.snd.fst = x.snd.snd.fst) ∧
 a = a ∧ True) ∧
 Z
 (a, a_6, IntKind.wrap IntKind.i64 (a_7 + (1 : Int)),
 ()) ∧
 μ
 (a, a_6,
 IntKind.wrap IntKind.i64 (a_7 + (1 : Int)),
 ()) <
 μ (a, a_6, a_7, ())))) ∧
 (decide (a_7 < (↑(List.length a) : Int)) = false →
 ((0 : Int) ≤ a_6 ∧ a_6 < (↑(List.length a) : Int)) ∧
 ((0 : Int) ≤ a_6 ∧
 a_6 ≤
 (↑(List.length
 (List.take (Int.toNat a_6) a ++
 List.replicate (List.length a - Int.toNat a_6)
 ((0 : Int), (0 : Int), (0 : Int), (0 : Int),
 ByteArray.empty, ()))) :
 Int)) ∧
 List.take (Int.toNat a_6)
 (List.take (Int.toNat a_6) a ++
 List.replicate (List.length a - Int.toNat a_6)
 ((0 : Int), (0 : Int), (0 : Int), (0 : Int),
 ByteArray.empty, ())) =
 List.filter (inI x.snd.fst x.snd.snd.fst) (allI x.fst)))) ∧
 (decide ((List.getD (allI x.fst) (Int.toNat a) (Ty.dflt t57)).snd.fst > x.snd.snd.fst) =
 false →
 ((IntKind.wrap IntKind.i64 (a + (1 : Int)) = IntKind.wrap IntKind.i64 (a + (1 : Int)) ∧
 True ∧
 (True ∧ True) ∧
 (↑(List.length (allI x.fst)) : Int) = (↑(List.length (allI x.fst)) : Int) ∧
 True ∧
 (True ∧ True) ∧
 True ∧
 Value.slice none (0 : Nat) (0 : Nat) =
 Value.slice none (0 : Nat) (0 : Nat)) ∧
 (x.snd.fst = x.snd.fst ∧ x.snd.snd.fst = x.snd.snd.fst) ∧
 allI x.fst = allI x.fst ∧ True) ∧
 Z (IntKind.wrap IntKind.i64 (a + (1 : Int)), ()) ∧
 μ (IntKind.wrap IntKind.i64 (a + (1 : Int)), ()) < μ (a, ())))) ∧
 (decide (a < (↑(List.length (allI x.fst)) : Int)) = false →
 (((-1 : Int) == (-1 : Int)) = true →
 allI x.fst = List.filter (inI x.snd.fst x.snd.snd.fst) (allI x.fst)) ∧
 (((-1 : Int) == (-1 : Int)) = false →
 ((IntKind.wrap IntKind.i64 ((-1 : Int) + (1 : Int)) =
 IntKind.wrap IntKind.i64 ((-1 : Int) + (1 : Int)) ∧
 (-1 : Int) = (-1 : Int) ∧
 True ∧
 (True ∧ True) ∧
 Value.slice none (0 : Nat) (0 : Nat) = Value.slice none (0 : Nat) (0 : Nat)) ∧
 (x.snd.fst = x.snd.fst ∧ x.snd.snd.fst = x.snd.snd.fst) ∧
 allI x.fst = allI x.fst ∧ True) ∧
 ∃ (Z : List Inl × Int × Int × Unit → Prop),
 ∃ (μ : List Inl × Int × Int × Unit → Nat),
 Z (allI x.fst, (-1 : Int), IntKind.wrap IntKind.i64 ((-1 : Int) + (1 : Int)), ()) ∧
 ∀ (a : List Inl) (a_2 a_3 : Int),
 Z (a, a_2, a_3, ()) →
 (decide (a_3 < (↑(List.length a) : Int)) = true →
 ((0 : Int) ≤ a_3 ∧ a_3 < (↑(List.length a) : Int)) ∧
 (decide ((List.getD a (Int.toNat a_3) (Ty.dflt t57)).snd.fst < x.snd.fst) =
 true →
 ((!true) = true →
 ((0 : Int) ≤ a_2 ∧ a_2 < (↑(List.length a) : Int)) ∧
 ((IntKind.wrap IntKind.i64 (a_3 + (1 : Int)) =
 IntKind.wrap IntKind.i64 (a_3 + (1 : Int)) ∧
 IntKind.wrap IntKind.i64 (a_2 + (1 : Int)) =
 IntKind.wrap IntKind.i64 (a_2 + (1 : Int)) ∧
 True ∧
 (True ∧ True) ∧
 Value.slice none (0 : Nat) (0 : Nat) =
 Value.slice none (0 : Nat) (0 : Nat)) ∧
 (x.snd.fst = x.snd.fst ∧ x.snd.snd.fst = x.snd.snd.fst) ∧
 List.set a (Int.toNat a_2)
 (List.getD a (Int.toNat a_3) (Ty.dflt t57)) =
 List.set a (Int.toNat a_2)
 (List.getD a (Int.toNat a_3) (Ty.dflt t57)) ∧
 True) ∧
 Z
 (List.set a (Int.toNat a_2)
 (List.getD a (Int.toNat a_3) (Ty.dflt t57)),
 IntKind.wrap IntKind.i64 (a_2 + (1 : Int)),
 IntKind.wrap IntKind.i64 (a_3 + (1 : Int)), ()) ∧
 μ
 (List.set a (Int.toNat a_2)
 (List.getD a (Int.toNat a_3) (Ty.dflt t57)),
 IntKind.wrap IntKind.i64 (a_2 + (1 : Int)),
 IntKind.wrap IntKind.i64 (a_3 + (1 : Int)), ()) <
 μ (a, a_2, a_3, ())) ∧
 ((!true) = false →
 ((IntKind.wrap IntKind.i64 (a_3 + (1 : Int)) =
 IntKind.wrap IntKind.i64 (a_3 + (1 : Int)) ∧
 a_2 = a_2 ∧
 True ∧
 (True ∧ True) ∧
 Value.slice none (0 : Nat) (0 : Nat) =
 Value.slice none (0 : Nat) (0 : Nat)) ∧
 (x.snd.fst = x.snd.fst ∧ x.snd.snd.fst = x.snd.snd.fst) ∧
 a = a ∧ True) ∧
 Z (a, a_2, IntKind.wrap IntKind.i64 (a_3 + (1 : Int)), ()) ∧
 μ (a, a_2, IntKind.wrap IntKind.i64 (a_3 + (1 : Int)), ()) <
 μ (a, a_2, a_3, ()))) ∧
 (decide
 ((List.getD a (Int.toNat a_3) (Ty.dflt t57)).snd.fst < x.snd.fst) =
 false →
 ((!decide
 ((List.getD a (Int.toNat a_3) (Ty.dflt t57)).snd.fst >
 x.snd.snd.fst)) =
 true →
 ((0 : Int) ≤ a_2 ∧ a_2 < (↑(List.length a) : Int)) ∧
 ((IntKind.wrap IntKind.i64 (a_3 + (1 : Int)) =
 IntKind.wrap IntKind.i64 (a_3 + (1 : Int)) ∧
 IntKind.wrap IntKind.i64 (a_2 + (1 : Int)) =
 IntKind.wrap IntKind.i64 (a_2 + (1 : Int)) ∧
 True ∧
 (True ∧ True) ∧
 Value.slice none (0 : Nat) (0 : Nat) =
 Value.slice none (0 : Nat) (0 : Nat)) ∧
 (x.snd.fst = x.snd.fst ∧ x.snd.snd.fst = x.snd.snd.fst) ∧
 List.set a (Int.toNat a_2)
 (List.getD a (Int.toNat a_3) (Ty.dflt t57)) =
 List.set a (Int.toNat a_2)
 (List.getD a (Int.toNat a_3) (Ty.dflt t57)) ∧
 True) ∧
 Z
 (List.set a (Int.toNat a_2)
 (List.getD a (Int.toNat a_3) (Ty.dflt t57)),
 IntKind.wrap IntKind.i64 (a_2 + (1 : Int)),
 IntKind.wrap IntKind.i64 (a_3 + (1 : Int)), ()) ∧
 μ
 (List.set a (Int.toNat a_2)
 (List.getD a (Int.toNat a_3) (Ty.dflt t57)),
 IntKind.wrap IntKind.i64 (a_2 + (1 : Int)),
 IntKind.wrap IntKind.i64 (a_3 + (1 : Int)), ()) <
 μ (a, a_2, a_3, ())) ∧
 ((!decide
 ((List.getD a (Int.toNat a_3) (Ty.dflt t57)).snd.fst >
 x.snd.snd.fst)) =
 false →
 ((IntKind.wrap IntKind.i64 (a_3 + (1 : Int)) =
 IntKind.wrap IntKind.i64 (a_3 + (1 : Int)) ∧
 a_2 = a_2 ∧
 True ∧
 (True ∧ True) ∧
 Value.slice none (0 : Nat) (0 : Nat) =
 Value.slice none (0 : Nat) (0 : Nat)) ∧
 (x.snd.fst = x.snd.fst ∧ x.snd.snd.fst = x.snd.snd.fst) ∧
 a = a ∧ True) ∧
 Z (a, a_2, IntKind.wrap IntKind.i64 (a_3 + (1 : Int)), ()) ∧
 μ (a, a_2, IntKind.wrap IntKind.i64 (a_3 + (1 : Int)), ()) <
 μ (a, a_2, a_3, ())))) ∧
 (decide (a_3 < (↑(List.length a) : Int)) = false →
 ((0 : Int) ≤ a_2 ∧ a_2 < (↑(List.length a) : Int)) ∧
 ((0 : Int) ≤ a_2 ∧
 a_2 ≤
 (↑(List.length
 (List.take (Int.toNat a_2) a ++
 List.replicate (List.length a - Int.toNat a_2)
 ((0 : Int), (0 : Int), (0 : Int), (0 : Int),
 ByteArray.empty, ()))) :
 Int)) ∧
 List.take (Int.toNat a_2)
 (List.take (Int.toNat a_2) a ++
 List.replicate (List.length a - Int.toNat a_2)
 ((0 : Int), (0 : Int), (0 : Int), (0 : Int), ByteArray.empty,
 ())) =
 List.filter (inI x.snd.fst x.snd.snd.fst) (allI x.fst))))
theorem vcEq44 : fnVC E44 Tryd.f44 (bodyOf Tryd.f44) cBetween = vc44 := by kernel_rfl
def hsO63 : List (Nat × Nat × Hint) := []
def nmO63 : List Nat := [1000000005, 3000000024, 3000000071, 3000000095]
noncomputable def EO63 : Env := envR tab [] [] gl hsO63 nmO63 []
def vcO63 : Prop :=
 ∀ (x : List Inl × Unit),
 List.length x.fst ≤ (10000 : Nat) →
 ∀ (c : Bool),
 (c = true → List.length x.fst = (0 : Nat)) →
 (c = true → [] = x.fst) ∧
 (c = false →
 ((0 : Nat) + List.length x.fst) * (48 : Nat) ≤ (140737488355328 : Nat) ∧
 (0 : Nat) + List.length x.fst ≤ maxLen ∧ [] ++ x.fst = x.fst)
theorem vcEqO63 : fnVCO EO63 Tryd.f63 (bodyOf Tryd.f63) cCloneO = vcO63 := by kernel_rfl
end Go.Fr.C14
namespace Go.Fr
open Go Go.RowKit
section
variable {B : Nat} {w w' : World} {h : PHeap}
theorem row_holds {e : TypeId} {size g n cap : Nat} {cs : List Value} (hown : w.ownsRow B e size (.slice (some ⟨g, 0, none⟩) n cap) n cs) : Sort.Holds id w g 0 cs.toArray := by
  rcases hown.2 with ⟨e0, _⟩ | ⟨g', cap', cur, e0, f1, f2, f3, f4, f5, f6⟩
  · cases e0
  · injection e0 with q1 q2 q3
    injection q1 with q1
    injection q1 with q1
    subst q1 q3
    intro j hj
    have hj' : j < cs.length := by simpa using hj
    have hc : cur.toList[j]? = some cs[j] := by
      have h1 : cs[j]? = some cs[j] := List.getElem?_eq_getElem hj'
      have h3 : (cur.toList.take (n * size))[j]? = some cs[j] := by rw [f6]; exact h1
      rw [List.getElem?_take] at h3
      split at h3
      · exact h3
      · cases h3
    refine ⟨?_, ?_⟩
    · simp only [World.cell?, f2, Nat.zero_add]
      simp only [Array.getElem?_toList] at hc
      simp [hc, hj']
    · simp [World.frozen?, f2]
theorem put_row {e : TypeId} {size g n m cap q : Nat} {cs cs' : List Value} {os : Array Obj} (hs : 0 < size) (hown : w.ownsRow B e size (.slice (some ⟨g, 0, none⟩) n cap) n cs) (hl : cs'.length = n * size) (hm : m ≤ n)
    (hw : w' = Sort.grow (Sort.putRow id (Sort.ahead w q) g 0 cs'.toArray) os) : w'.ownsRow B e size (.slice (some ⟨g, 0, none⟩) m cap) m (cs'.take (m * size)) ∧ GrownBy w w' (some g) := by
  rcases hown.2 with ⟨e0, _⟩ | ⟨g', cap', cur, e0, f1, f2, f3, f4, f5, f6⟩
  · cases e0
  · injection e0 with q1 q2 q3
    injection q1 with q1
    injection q1 with q1
    subst q1 q3
    have hlt : g < w.heap.size := lt_of_heap f2
    have hms : m * size ≤ n * size := Nat.mul_le_mul_right _ hm
    have hncap : n * size ≤ cap * size := Nat.mul_le_mul_right _ f3
    have hg : w'.heap[g]? = some (.cells (Sort.putCells id 0 cs'.toArray cur) e (0, 0)) := by
      rw [hw, Sort.heap_grow_old _ _ (by simp [Sort.ahead]; exact hlt)]
      simp only [Sort.putRow, Sort.mapBlock, Sort.ahead]
      rw [Array.getElem?_modify]
      simp [f2, Sort.onCells]
    refine ⟨⟨by rw [List.length_take, hl]; omega, .inr ⟨g, cap, _, rfl, f1, hg, by omega, f4, by simp [Sort.putCells, f5], ?_⟩⟩, ?_⟩
    · apply List.ext_getElem?
      intro j
      rw [List.getElem?_take, List.getElem?_take]
      by_cases hj : j < m * size
      · rw [if_pos hj, if_pos hj]
        have h1 : j < cur.size := by omega
        have h2 : j < cs'.length := by omega
        simp only [Sort.putCells, Array.toList_mapIdx, List.getElem?_mapIdx, Array.getElem?_toList]
        rw [Array.getElem?_eq_getElem h1]
        simp [h2]
      · rw [if_neg hj, if_neg hj]
    · rw [hw]
      refine ⟨rfl, rfl, rfl, by simp [Sort.ahead], fun k hk hne => ?_, Nat.le_add_right _ _⟩
      rw [Sort.heap_grow_old _ _ (by simp [Sort.ahead]; exact hk)]
      simp only [Sort.putRow, Sort.mapBlock, Sort.ahead]
      rw [Array.getElem?_modify, if_neg (fun e => hne (by rw [e]))]
theorem putRow_id {α : Type} [Inhabited α] (enc : α → Value) (w : World) (g : Nat) (d : List α) : Sort.putRow enc w g 0 d.toArray = Sort.putRow id w g 0 (d.map enc).toArray := by
  refine Sort.mapBlock_congr w g _ _ fun c e fr _ => ?_
  unfold Sort.putCells
  apply Array.ext_getElem?
  intro k
  simp only [Array.getElem?_mapIdx]
  congr 1
  funext x
  by_cases hk : k < d.length
  · simp [hk]
  · simp [hk]
theorem holds_id {α : Type} [Inhabited α] (enc : α → Value) (w : World) (g : Nat) (d : List α) (h : Sort.Holds id w g 0 (d.map enc).toArray) : Sort.Holds enc w g 0 d.toArray := by
  intro j hj
  have hj' : j < d.length := by simpa using hj
  have := h j (by simpa using hj')
  simpa [hj'] using this
theorem ints_cells : (xs : List Int) → (cs : List Value) → RowCells h (.int .i64) xs cs → cs = xs.map (Value.int .i64)
  | [], _, e => by simp only [RowCells] at e; subst e; rfl
  | x :: xs, _, ⟨d, r, e, h1, h2⟩ => by
    simp only [rep] at h1
    subst e h1
    rw [ints_cells xs r h2]
    rfl
theorem ints_row : (xs : List Int) → RowCells h (.int .i64) xs (xs.map (Value.int .i64))
  | [] => rfl
  | x :: xs => ⟨[.int .i64 x], _, rfl, rfl, ints_row xs⟩
theorem grownBy_refl (w : World) (r : Option Nat) : GrownBy w w r := GrownBy.refl w r
theorem sort_spec {P : Program} {f : FuncId} {e : TypeId} {fn : Func} {cd : Code} (hf : P.funcs[f]? = some fn) (hname : fn.name ≠ "runtime.NumGoroutine") (hb : fn.body = some cd) {pre : List Int → Prop} {post : List Int → List Int → Prop}
    (hpost : ∀ xs, pre xs → post xs (xs.mergeSort fun x y => decide (x ≤ y))) (hpre : ∀ xs, pre xs → xs.length < 4611686018427387904)
    (H : ∀ (blk off cap : Nat) (zs : List Int) (w : World), Sort.Holds (Value.int .i64) w blk off zs.toArray → blk < w.heap.size → zs.length < 4611686018427387904 →
      Calls P f #[.slice (some ⟨blk, off, none⟩) zs.length cap] w fun e w' => e = .returned (.tuple #[]) ∧ ∃ n os, w' = Sort.grow (Sort.putRow (Value.int .i64) (Sort.ahead w n) blk off (zs.mergeSort fun x y => decide (x ≤ y)).toArray) os)
    (H0 : ∀ (p : Option Addr) (cap : Nat) (w : World), Calls P f #[.slice p 0 cap] w fun e w' => e = .returned (.tuple #[]) ∧ w' = w) :
    RSpec P f { t := .int .i64, e := e, pre := pre, post := post, back := false } := by
  refine ⟨⟨fn, cd, hf, hname, hb⟩, ?_⟩
  intro xs h w B v cs hp hpin hB hown hrc hfr
  have hown : w.ownsRow B e 1 v xs.length cs := hown
  have hrc : RowCells h (.int .i64) xs cs := hrc
  have hcs := ints_cells xs cs hrc
  subst hcs
  simp only [tailVals, List.map_nil, List.append_nil]
  rcases hown.2 with ⟨e0, e1⟩ | ⟨g, cap, cur, e0, f1, f2, f3⟩
  · subst e0
    have hx : xs = [] := List.eq_nil_of_length_eq_zero e1
    subst hx
    refine (H0 none 0 w).mono ?_
    rintro en w' ⟨rfl, rfl⟩
    refine ⟨_, .slice none 0 0, _, [], rfl, hpost [] hp, by simpa using World.ownsRow_nil _ B e (Ty.size (.int .i64)), by simp [RowCells], grownBy_refl _ _, ⟨fun g hg => by simp [Value.ownBlock] at hg, rfl⟩⟩
  · subst e0
    refine (H g 0 cap xs w (holds_id _ w g xs (row_holds hown)) (lt_of_heap f2) (hpre xs hp)).mono ?_
    rintro en w' ⟨rfl, q, os, hw⟩
    rw [putRow_id] at hw
    have hl : (xs.mergeSort fun x y => decide (x ≤ y)).length = xs.length := List.length_mergeSort xs
    obtain ⟨g1, g2⟩ := put_row (m := xs.length) (by decide) hown (by rw [List.length_map, hl, Nat.mul_one]) (Nat.le_refl _) hw
    rw [List.take_of_length_le (by rw [List.length_map, hl]; exact Nat.le_of_eq (Nat.mul_one _).symm)] at g1
    refine ⟨_, _, _, _, rfl, hpost xs hp, by rw [hl]; exact g1, ints_row _, g2, fun g' hg => .inl hg, rfl⟩
theorem compact_spec {P : Program} {f : FuncId} {e : TypeId} {fn : Func} {cd : Code} (hf : P.funcs[f]? = some fn) (hname : fn.name ≠ "runtime.NumGoroutine") (hb : fn.body = some cd) {pre : List Int → Prop} {post : List Int → List Int → Prop} {C : List Int → List Int}
    (hC : ∀ xs, (C xs).length ≤ xs.length) (hC0 : C [] = []) (hpost : ∀ xs, pre xs → post xs (C xs)) (hpre : ∀ xs, pre xs → xs.length ≤ 9223372036854775807)
    (H : ∀ (blk off cap : Nat) (zs : List Int) (w : World), Sort.Holds (Value.int .i64) w blk off zs.toArray → zs.length ≤ 9223372036854775807 → zs.length ≤ cap →
      Calls P f #[.slice (some ⟨blk, off, none⟩) zs.length cap] w fun e w' => e = .returned (.slice (some ⟨blk, off, none⟩) (C zs).length cap) ∧ ∃ q, w' = Sort.putRow (Value.int .i64) (Sort.ahead w q) blk off (C zs ++ List.replicate (zs.length - (C zs).length) 0).toArray)
    (H0 : ∀ (p : Option Addr) (cap : Nat) (w : World), Calls P f #[.slice p 0 cap] w fun e w' => e = .returned (.slice p 0 cap) ∧ w' = w) :
    RSpec P f { t := .int .i64, e := e, pre := pre, post := post, back := true } := by
  refine ⟨⟨fn, cd, hf, hname, hb⟩, ?_⟩
  intro xs h w B v cs hp hpin hB hown hrc hfr
  have hown : w.ownsRow B e 1 v xs.length cs := hown
  have hrc : RowCells h (.int .i64) xs cs := hrc
  have hcs := ints_cells xs cs hrc
  subst hcs
  simp only [tailVals, List.map_nil, List.append_nil]
  rcases hown.2 with ⟨e0, e1⟩ | ⟨g, cap, cur, e0, f1, f2, f3, f4⟩
  · subst e0
    have hx : xs = [] := List.eq_nil_of_length_eq_zero e1
    subst hx
    refine (H0 none 0 w).mono ?_
    rintro en w' ⟨rfl, rfl⟩
    have hp2 := hpost [] hp
    rw [hC0] at hp2
    exact ⟨_, .slice none 0 0, [], [], rfl, hp2, World.ownsRow_nil _ B e 1, rfl, grownBy_refl _ _, ⟨fun g hg => by simp [Value.ownBlock] at hg, rfl⟩⟩
  · subst e0
    refine (H g 0 cap xs w (holds_id _ w g xs (row_holds hown)) (hpre xs hp) f3).mono ?_
    rintro en w' ⟨rfl, q, hw⟩
    rw [putRow_id] at hw
    have hl := hC xs
    have hw2 : w' = Sort.grow (Sort.putRow id (Sort.ahead w q) g 0 ((C xs ++ List.replicate (xs.length - (C xs).length) 0).map (Value.int .i64)).toArray) #[] := by rw [hw]; simp
    obtain ⟨g1, g2⟩ := put_row (m := (C xs).length) (by decide) hown (by simp; omega) hl hw2
    have ht : ((C xs ++ List.replicate (xs.length - (C xs).length) 0).map (Value.int .i64)).take ((C xs).length * 1) = (C xs).map (Value.int .i64) := by
      rw [List.map_append]
      have : (C xs).length * 1 = ((C xs).map (Value.int .i64)).length := by rw [List.length_map]; exact Nat.mul_one _
      rw [this]
      exact List.take_left
    rw [ht] at g1
    exact ⟨_, _, _, _, rfl, hpost xs hp, g1, ints_row _, g2, fun g' hg => .inl hg, rfl⟩
end
end Go.Fr
namespace Go.Fr
open Go Go.Proofs Go.Sort
def insBy {α : Type} (cf : α → α → Int) (x : α) : List α → List α
  | [] => [x]
  | y :: r => if cf x y < 0 then x :: y :: r else y :: insBy cf x r
section
variable {α : Type} {cf : α → α → Int}
theorem uniq_sorted {le : α → α → Prop} (anti : ∀ a b, le a b → le b a → a = b) : (l m : List α) → l.Perm m → l.Pairwise le → m.Pairwise le → l = m
  | [], m, hp, _, _ => (List.nil_perm.1 hp).symm
  | x :: l, [], hp, _, _ => by have := hp.length_eq; simp at this
  | x :: l, y :: m, hp, h1, h2 => by
    have hx := List.pairwise_cons.1 h1
    have hy := List.pairwise_cons.1 h2
    have e : x = y := by
      have m1 : x ∈ y :: m := hp.subset (List.mem_cons_self ..)
      have m2 : y ∈ x :: l := hp.symm.subset (List.mem_cons_self ..)
      rcases List.mem_cons.1 m1 with e | m1
      · exact e
      · rcases List.mem_cons.1 m2 with e | m2
        · exact e.symm
        · exact anti _ _ (hx.1 _ m2) (hy.1 _ m1)
    subst e
    rw [uniq_sorted anti l m (List.Perm.cons_inv hp) hx.2 hy.2]
theorem insBy_perm (x : α) : (l : List α) → (insBy cf x l).Perm (x :: l)
  | [] => List.Perm.refl _
  | y :: r => by
    unfold insBy
    split
    · exact List.Perm.refl _
    · exact ((insBy_perm x r).cons y).trans (List.Perm.swap x y r)
theorem lt_of {x y : α} : ltOf cf x y = true ↔ cf x y < 0 := by unfold ltOf; simp
theorem lt_of_f {x y : α} : ltOf cf x y = false ↔ ¬ cf x y < 0 := by unfold ltOf; simp
theorem insBy_sorted (hO : SWO (ltOf cf)) (x : α) : (l : List α) → l.Pairwise (fun a b => ¬ cf b a < 0) → (insBy cf x l).Pairwise (fun a b => ¬ cf b a < 0)
  | [], _ => by simp [insBy]
  | y :: r, h => by
    have hy := List.pairwise_cons.1 h
    unfold insBy
    split
    · rename_i hxy
      refine List.pairwise_cons.2 ⟨fun z hz => ?_, h⟩
      rcases List.mem_cons.1 hz with e | hz
      · subst e
        intro h2
        have := hO.trans _ _ _ (lt_of.2 hxy) (lt_of.2 h2)
        rw [hO.irrefl] at this
        cases this
      · intro h2
        exact hy.1 z hz (lt_of.1 (hO.trans _ _ _ (lt_of.2 h2) (lt_of.2 hxy)))
    · rename_i hxy
      refine List.pairwise_cons.2 ⟨fun z hz => ?_, insBy_sorted hO x r hy.2⟩
      rcases List.mem_cons.1 ((insBy_perm x r).subset hz) with e | hz
      · subst e; exact hxy
      · exact hy.1 z hz
theorem sortBy_perm (l : List α) : (sortBy cf l).Perm l := List.mergeSort_perm l _
theorem sortBy_sorted (hO : SWO (ltOf cf)) (l : List α) : (sortBy cf l).Pairwise (fun a b => ¬ cf b a < 0) := by
  have := List.pairwise_mergeSort (le := fun x y => !decide (cf y x < 0)) (fun a b c h1 h2 => by
    simp only [Bool.not_eq_true', decide_eq_false_iff_not] at *
    exact lt_of_f.1 (hO.ntrans _ _ _ (lt_of_f.2 h2) (lt_of_f.2 h1))) (fun a b => by
    simp only [Bool.or_eq_true, Bool.not_eq_true', decide_eq_false_iff_not]
    by_cases h : cf b a < 0
    · right
      intro h2
      have := hO.trans _ _ _ (lt_of.2 h) (lt_of.2 h2)
      rw [hO.irrefl] at this
      cases this
    · exact .inl h) l
  exact this.imp fun h => by simpa using h
theorem sorted_is (hO : SWO (ltOf cf)) (hT : ∀ x y, ltOf cf x y = false → ltOf cf y x = false → x = y) {l m : List α} (hp : l.Perm m) (hs : l.Pairwise (fun a b => ¬ cf b a < 0)) : l = sortBy cf m :=
  uniq_sorted (fun a b h1 h2 => hT a b (lt_of_f.2 h2) (lt_of_f.2 h1)) l _ (hp.trans (sortBy_perm m).symm) hs (sortBy_sorted hO m)
theorem ins_all (hO : SWO (ltOf cf)) (l out : List α) (h : out.Pairwise (fun a b => ¬ cf b a < 0)) : (l.foldl (fun o x => insBy cf x o) out).Perm (out ++ l) ∧ (l.foldl (fun o x => insBy cf x o) out).Pairwise (fun a b => ¬ cf b a < 0) := by
  induction l generalizing out with
  | nil => simpa using h
  | cons x r ih =>
    obtain ⟨h1, h2⟩ := ih (insBy cf x out) (insBy_sorted hO x out h)
    refine ⟨h1.trans ?_, h2⟩
    have := (insBy_perm (cf := cf) x out).append_right r
    exact this.trans (by simpa using (List.perm_middle (a := x) (l₁ := out) (l₂ := r)).symm)
theorem ins_sort (hO : SWO (ltOf cf)) (hT : ∀ x y, ltOf cf x y = false → ltOf cf y x = false → x = y) (l : List α) : l.foldl (fun o x => insBy cf x o) [] = sortBy cf l := by
  obtain ⟨h1, h2⟩ := ins_all hO l [] List.Pairwise.nil
  exact sorted_is hO hT (by simpa using h1) h2
end
section
variable {α : Type} {f : α → Bool} {d : α}
theorem take_one (d : α) {l : List α} {k : Nat} (h : k < l.length) : l.take (k + 1) = l.take k ++ [l.getD k d] := by
  rw [List.take_succ_eq_append_getElem h]
  simp [List.getD, h]
theorem getD_is (d : α) {l : List α} {k : Nat} (h : k < l.length) : l.getD k d = l[k] := by simp [List.getD, h]
def DelI (f : α → Bool) (d : α) (xs a : List α) (i j : Nat) : Prop := a.length = xs.length ∧ j ≤ xs.length ∧ i < j ∧ a.take i = (xs.take j).filter f ∧ ∀ q, j ≤ q → a.getD q d = xs.getD q d
theorem filter_one {xs : List α} {j : Nat} (h : j < xs.length) : (xs.take (j + 1)).filter f = (xs.take j).filter f ++ (if f (xs.getD j d) then [xs.getD j d] else []) := by
  rw [take_one d h, List.filter_append]
  congr 1
  by_cases hk : f (xs.getD j d) = true
  · rw [List.filter_cons_of_pos hk, if_pos hk]; rfl
  · rw [List.filter_cons_of_neg hk, if_neg hk]; rfl
theorem DelI.keep {xs a : List α} {i j : Nat} (h : DelI f d xs a i j) (hj : j < xs.length) (hk : f (a.getD j d) = true) : DelI f d xs (a.set i (a.getD j d)) (i + 1) (j + 1) := by
  obtain ⟨h1, h2, h3, h4, h5⟩ := h
  have e := h5 j (Nat.le_refl _)
  rw [e] at hk ⊢
  refine ⟨by rw [List.length_set]; exact h1, hj, by omega, ?_, fun q hq => ?_⟩
  · rw [filter_one (d := d) hj, if_pos hk, ← h4]
    rw [List.take_succ_eq_append_getElem (by rw [List.length_set]; omega), List.take_set_of_le (Nat.le_refl _), List.getElem_set_self]
  · rw [← h5 q (by omega), List.getD_eq_getElem?_getD, List.getElem?_set_ne (by omega), ← List.getD_eq_getElem?_getD]
theorem DelI.drop {xs a : List α} {i j : Nat} (h : DelI f d xs a i j) (hj : j < xs.length) (hk : f (a.getD j d) = false) : DelI f d xs a i (j + 1) := by
  obtain ⟨h1, h2, h3, h4, h5⟩ := h
  have e := h5 j (Nat.le_refl _)
  rw [e] at hk
  refine ⟨h1, hj, by omega, ?_, fun q hq => h5 q (by omega)⟩
  rw [filter_one (d := d) hj, if_neg (by rw [hk]; decide), List.append_nil]
  exact h4
theorem DelI.init {xs : List α} {k : Nat} (hk : k < xs.length) (hs : ∀ j, j < k → f (xs.getD j d) = true) (hn : f (xs.getD k d) = false) : DelI f d xs xs k (k + 1) := by
  refine ⟨rfl, hk, by omega, ?_, fun q _ => rfl⟩
  rw [filter_one (d := d) hk, if_neg (by rw [hn]; decide), List.append_nil]
  rw [List.filter_eq_self.2]
  intro m hm
  obtain ⟨i, hi, e⟩ := List.getElem_of_mem hm
  rw [List.length_take] at hi
  have := hs i (by omega)
  rw [getD_is d (by omega)] at this
  rw [← e, List.getElem_take]
  exact this
theorem filter_whole {xs : List α} (hs : ∀ j, j < xs.length → f (xs.getD j d) = true) : xs.filter f = xs := by
  rw [List.filter_eq_self]
  intro m hm
  obtain ⟨i, hi, e⟩ := List.getElem_of_mem hm
  have := hs i hi
  rw [getD_is d hi, e] at this
  exact this
theorem DelI.last {xs a : List α} {i : Nat} (h : DelI f d xs a i xs.length) (z : α) : (a.take i ++ List.replicate (a.length - i) z).take i = xs.filter f := by
  obtain ⟨h1, h2, h3, h4, h5⟩ := h
  rw [List.take_append_of_le_length (by rw [List.length_take]; omega), List.take_take, Nat.min_self, h4, List.take_length]
end
section
variable {α : Type}
theorem sort_one_way {cf : α → α → Int} (hO : SWO (ltOf cf)) {xs ys : List α} (hT : ∀ x ∈ xs, ∀ y ∈ xs, ltOf cf x y = false → ltOf cf y x = false → x = y) (hp : ys.Perm xs) (hs : ys.Pairwise (fun a b => ¬ cf b a < 0)) : ys = sortBy cf xs := by
  have hs2 : (sortBy cf xs).Pairwise (fun x y => (!(ltOf cf) y x) = true) := by
    refine List.pairwise_mergeSort ?_ ?_ _
    · intro a b c h1 h2
      simp only [Bool.not_eq_true'] at h1 h2 ⊢
      exact hO.ntrans c b a h2 h1
    · intro a b
      cases h : ltOf cf b a with
      | false => simp
      | true =>
        cases h2 : ltOf cf a b with
        | false => simp
        | true =>
          have := hO.trans a b a h2 h
          rw [hO.irrefl] at this
          cases this
  refine List.Perm.eq_of_pairwise (le := fun x y => (!(ltOf cf) y x) = true) ?_ ?_ hs2 (hp.trans (List.mergeSort_perm _ _).symm)
  · intro a b ha hb h1 h2
    simp only [Bool.not_eq_true'] at h1 h2
    have hb' := (List.mergeSort_perm xs _).subset hb
    exact hT a (hp.subset ha) b hb' h2 h1
  · refine hs.imp fun {a b} h => ?_
    simp only [Bool.not_eq_true']
    exact decide_eq_false h
end
end Go.Fr
namespace Go.Fr.C14
open Go Go.Fr Go.Proofs
open Go.Sort
theorem cmpI_lt {a b : Int} : cmpI a b < 0 ↔ a < b := by unfold cmpI; split <;> (try split) <;> omega
theorem cmpI_eq {a b : Int} : cmpI a b = 0 ↔ a = b := by unfold cmpI; split <;> (try split) <;> omega
theorem nz_lt {x : Int} {r : List Int} : firstNZ (x :: r) < 0 ↔ x < 0 ∨ (x = 0 ∧ firstNZ r < 0) := by
  show (if x = 0 then firstNZ r else x) < 0 ↔ _
  split <;> omega
theorem cmpL_lt {a b : Inl} : cmpL a b < 0 ↔ a.2.1 < b.2.1 ∨ (a.2.1 = b.2.1 ∧ (a.2.2.2.1 < b.2.2.2.1 ∨ (a.2.2.2.1 = b.2.2.2.1 ∧ a.1 < b.1))) := by
  unfold cmpL
  rw [nz_lt, nz_lt, nz_lt, cmpI_lt, cmpI_lt, cmpI_lt, cmpI_eq, cmpI_eq, cmpI_eq]
  have : ¬ firstNZ [] < 0 := by decide
  simp only [this, and_false, or_false]
theorem ltL {x y : Inl} : ltOf cmpL x y = decide (x.2.1 < y.2.1 ∨ (x.2.1 = y.2.1 ∧ (x.2.2.2.1 < y.2.2.2.1 ∨ (x.2.2.2.1 = y.2.2.2.1 ∧ x.1 < y.1)))) := by
  unfold ltOf
  exact decide_eq_decide.2 cmpL_lt
theorem swoL : SWO (ltOf cmpL) where
  irrefl x := by rw [ltL]; simp
  trans x y z h1 h2 := by
    rw [ltL] at *
    rw [decide_eq_true_eq] at *
    omega
  ntrans x y z h1 h2 := by
    rw [ltL] at *
    rw [decide_eq_false_iff_not] at *
    omega
theorem alikeL {x y : Inl} (h1 : ltOf cmpL x y = false) (h2 : ltOf cmpL y x = false) : x.1 = y.1 := by
  rw [ltL] at h1 h2
  rw [decide_eq_false_iff_not] at h1 h2
  omega
theorem ahead_lt {a b : Inl} : aheadI a b = true ↔ cmpL a b < 0 := by
  rw [cmpL_lt]
  unfold aheadI
  split
  · rw [decide_eq_true_eq]; omega
  · split
    · rw [decide_eq_true_eq]; omega
    · rw [decide_eq_true_eq]; omega
end Go.Fr.C14
