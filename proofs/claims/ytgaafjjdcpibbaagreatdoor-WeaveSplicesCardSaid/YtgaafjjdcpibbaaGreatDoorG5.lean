/-
  Texts on which the proofs of the seat's statements stand: a symbolic walk, its soundness, the functions' conditions and their proofs (5). Conditions: none.
-/
import Derived.Test.YtgaafjjdcpibbaaGreatDoorG4
namespace Go.Fr.Z14
open Go Go.Fr Go.Proofs
set_option maxRecDepth 100000
def hs29 : List (Nat × Nat × Hint) := [(0, 5, ⟨[.slot 4 t131, .slot 14 t3], [0, 12, 13], [], []⟩)]
def nm29 : List Nat := [3000000023]
noncomputable def E29 : Env := env tab [(64, cCheck), (66, cLeafOf), (65, cJoin)] [] gl hs29 nm29
def vc29 : Prop :=
 ∀ (x : List Itm × Unit),
 let y := (↑(List.length x.fst) : Int);
 let y_1 := x.fst;
 List.length y_1 ≤ (100000 : Nat) →
 (decide (y > (30000 : Int)) = true → (none, (5 : Int), ()) = newT y_1) ∧
 (decide (y > (30000 : Int)) = false →
 ((0 : Int) = (0 : Int) ∧ (NT.nil : Nd) = (NT.nil : Nd) ∧ y_1 = y_1 ∧ y_1 = y_1 ∧ y = y) ∧
 ∃ (Z : Nd × Int × Unit → Prop),
 ∃ (μ : Nd × Int × Unit → Nat),
 Z (NT.nil, (0 : Int), ()) ∧
 ∀ (a : Nd) (a_1 : Int),
 let y_2 :=  List.take  (List.length  (List.replicate  (Int.toNat  (if IntKind.wrap IntKind.i64 (y - a_1) < (8 : Int) then IntKind.wrap IntKind.i64 (y - a_1)  else (8 : Int)))  ((0 : Int), (0 : Int), ((0 : Int), (0 : Int), (0 : Int), ()), (0 : Int), ByteArray.empty,  ())))  (List.drop (Int.toNat a_1) y_1) ++  List.drop (List.length (List.drop (Int.toNat a_1) y_1))  (List.replicate  (Int.toNat  (if IntKind.wrap IntKind.i64 (y - a_1) < (8 : Int) then IntKind.wrap IntKind.i64 (y - a_1)  else (8 : Int)))  ((0 : Int), (0 : Int), ((0 : Int), (0 : Int), (0 : Int), ()), (0 : Int), ByteArray.empty,  ()));
 let y_3 :=  if IntKind.wrap IntKind.i64 (y - a_1) < (8 : Int) then IntKind.wrap IntKind.i64 (y - a_1)  else (8 : Int);
 let y_4 := IntKind.wrap IntKind.i64 (a_1 + (1 : Int));
 let y_5 := (a, a_1, ());
 let y_6 := (a, y_4, ());
 let y_7 := (join a (NT.ofLeaf (some (mkLf y_2))), y_4, ());
 let y_8 := NT.ofLeaf (some (mkLf y_2));
 Z y_5 →
 (decide (a_1 < y) = true →
 ((0 : Int) ≤ a_1 ∧ a_1 < y) ∧
 True ∧
 ((checkI (List.getD y_1 (Int.toNat a_1) (Ty.dflt t99)) != (0 : Int)) = true →
 (none, checkI (List.getD y_1 (Int.toNat a_1) (Ty.dflt t99)), ()) = newT y_1) ∧
 ((checkI (List.getD y_1 (Int.toNat a_1) (Ty.dflt t99)) != (0 : Int)) = false →
 (8 : Int) ≠ (0 : Int) ∧
 ((Int.tmod a_1 (8 : Int) == (0 : Int)) = true →
 ((0 : Int) ≤ y_3 ∧
 y_3 ≤ y_3 ∧
 y_3 * (↑(64 : Nat) : Int) ≤ (140737488355328 : Int) ∧
 y_3 ≤ (1000000000000 : Int)) ∧
 ((0 : Int) ≤ a_1 ∧ a_1 ≤ y) ∧
 List.length y_2 ≤ maxLen ∧
 Option.isSome (some (mkLf y_2)) = true ∧
 (WfN a ∧ WfN y_8) ∧
 (y_4 = y_4 ∧ join a y_8 = join a y_8 ∧ y_1 = y_1 ∧ y_1 = y_1 ∧ y = y) ∧
 Z y_7 ∧ μ y_7 < μ y_5) ∧
 ((Int.tmod a_1 (8 : Int) == (0 : Int)) = false →
 (y_4 = y_4 ∧ a = a ∧ y_1 = y_1 ∧ y_1 = y_1 ∧ y = y) ∧ Z y_6 ∧ μ y_6 < μ y_5))) ∧
 (decide (a_1 < y) = false → (some (a, ()), (0 : Int), ()) = newT y_1))
theorem vcEq29 : fnVC E29 Tryz.f29 (bodyOf Tryz.f29) cTreeNew = vc29 := by kernel_rfl
def hs52 : List (Nat × Nat × Hint) := []
def nm52 : List Nat := [3000000023]
noncomputable def E52 : Env := env tab [(72, cTop), (83, cHeightOf)] [] gl hs52 nm52
def vc52 : Prop :=
 ∀ (x : Option (Nd × Unit) × Unit),
 True → True ∧ True ∧ heightOf (topT x.fst) = heightOf (topT x.fst)
theorem vcEq52 : fnVC E52 Tryz.f52 (bodyOf Tryz.f52) cHeightT = vc52 := by kernel_rfl
def hs64 : List (Nat × Nat × Hint) := [(0, 3, ⟨[], [], [], [4000000000, 4]⟩),
  (650022, 3, ⟨[], [], [], [4000000000, 4]⟩),
  (1300044, 3, ⟨[], [], [], [4000000000, 4]⟩),
  (1950066, 3, ⟨[], [], [], [4000000000, 4]⟩),
  (2600088, 3, ⟨[], [], [], [4000000000, 4]⟩),
  (3250110, 3, ⟨[], [], [], [4000000000, 4]⟩),
  (3900132, 3, ⟨[], [], [], [4000000000, 4]⟩),
  (4550154, 3, ⟨[], [], [], [4000000000, 4]⟩),
  (5200176, 3, ⟨[], [], [], [4000000000, 4]⟩)]
def nm64 : List Nat := [3000000023]
noncomputable def E64 : Env := env tab [(98, cWithinN)] [] gl hs64 nm64
def vc64 : Prop :=
 ∀ (x : Itm × Unit),
 True →
 True ∧
 (decide ((0 : Int) < (3 : Int)) = true →
 ((0 : Int) ≤ (0 : Int) ∧ (0 : Int) < (↑(3 : Nat) : Int)) ∧
 (withinN x.fst.snd.snd.snd.fst = true →
 True ∧
 (decide (IntKind.wrap IntKind.i64 ((0 : Int) + (1 : Int)) < (3 : Int)) = true →
 ((0 : Int) ≤ IntKind.wrap IntKind.i64 ((0 : Int) + (1 : Int)) ∧
 IntKind.wrap IntKind.i64 ((0 : Int) + (1 : Int)) < (↑(3 : Nat) : Int)) ∧
 (withinN x.fst.snd.snd.fst.fst = true →
 True ∧
 (decide
 (IntKind.wrap IntKind.i64
 (IntKind.wrap IntKind.i64 ((0 : Int) + (1 : Int)) + (1 : Int)) <
 (3 : Int)) =
 true →
 ((0 : Int) ≤
 IntKind.wrap IntKind.i64
 (IntKind.wrap IntKind.i64 ((0 : Int) + (1 : Int)) + (1 : Int)) ∧
 IntKind.wrap IntKind.i64
 (IntKind.wrap IntKind.i64 ((0 : Int) + (1 : Int)) + (1 : Int)) <
 (↑(3 : Nat) : Int)) ∧
 (withinN x.fst.snd.snd.fst.snd.fst = true →
 True ∧
 (decide
 (IntKind.wrap IntKind.i64
 (IntKind.wrap IntKind.i64
 (IntKind.wrap IntKind.i64 ((0 : Int) + (1 : Int)) +
 (1 : Int)) +
 (1 : Int)) <
 (3 : Int)) =
 true →
 False) ∧
 (decide
 (IntKind.wrap IntKind.i64
 (IntKind.wrap IntKind.i64
 (IntKind.wrap IntKind.i64 ((0 : Int) + (1 : Int)) +
 (1 : Int)) +
 (1 : Int)) <
 (3 : Int)) =
 false →
 ((!withinN x.fst.snd.snd.fst.snd.snd.fst) = true →
 (1 : Int) = checkI x.fst) ∧
 ((!withinN x.fst.snd.snd.fst.snd.snd.fst) = false →
 (0 : Int) = checkI x.fst))) ∧
 (withinN x.fst.snd.snd.fst.snd.fst = false →
 (decide
 (IntKind.wrap IntKind.i64
 (IntKind.wrap IntKind.i64
 (IntKind.wrap IntKind.i64 ((0 : Int) + (1 : Int)) + (1 : Int)) +
 (1 : Int)) <
 (3 : Int)) =
 true →
 False) ∧
 (decide
 (IntKind.wrap IntKind.i64
 (IntKind.wrap IntKind.i64
 (IntKind.wrap IntKind.i64 ((0 : Int) + (1 : Int)) + (1 : Int)) +
 (1 : Int)) <
 (3 : Int)) =
 false →
 ((!false) = true → (1 : Int) = checkI x.fst) ∧
 ((!false) = false → (0 : Int) = checkI x.fst)))) ∧
 (decide
 (IntKind.wrap IntKind.i64
 (IntKind.wrap IntKind.i64 ((0 : Int) + (1 : Int)) + (1 : Int)) <
 (3 : Int)) =
 false →
 ((!withinN x.fst.snd.snd.fst.snd.fst) = true → (1 : Int) = checkI x.fst) ∧
 ((!withinN x.fst.snd.snd.fst.snd.fst) = false → (0 : Int) = checkI x.fst))) ∧
 (withinN x.fst.snd.snd.fst.fst = false →
 (decide
 (IntKind.wrap IntKind.i64
 (IntKind.wrap IntKind.i64 ((0 : Int) + (1 : Int)) + (1 : Int)) <
 (3 : Int)) =
 true →
 ((0 : Int) ≤
 IntKind.wrap IntKind.i64
 (IntKind.wrap IntKind.i64 ((0 : Int) + (1 : Int)) + (1 : Int)) ∧
 IntKind.wrap IntKind.i64
 (IntKind.wrap IntKind.i64 ((0 : Int) + (1 : Int)) + (1 : Int)) <
 (↑(3 : Nat) : Int)) ∧
 (decide
 (IntKind.wrap IntKind.i64
 (IntKind.wrap IntKind.i64
 (IntKind.wrap IntKind.i64 ((0 : Int) + (1 : Int)) + (1 : Int)) +
 (1 : Int)) <
 (3 : Int)) =
 true →
 False) ∧
 (decide
 (IntKind.wrap IntKind.i64
 (IntKind.wrap IntKind.i64
 (IntKind.wrap IntKind.i64 ((0 : Int) + (1 : Int)) + (1 : Int)) +
 (1 : Int)) <
 (3 : Int)) =
 false →
 ((!false) = true → (1 : Int) = checkI x.fst) ∧
 ((!false) = false → (0 : Int) = checkI x.fst))) ∧
 (decide
 (IntKind.wrap IntKind.i64
 (IntKind.wrap IntKind.i64 ((0 : Int) + (1 : Int)) + (1 : Int)) <
 (3 : Int)) =
 false →
 ((!false) = true → (1 : Int) = checkI x.fst) ∧
 ((!false) = false → (0 : Int) = checkI x.fst)))) ∧
 (decide (IntKind.wrap IntKind.i64 ((0 : Int) + (1 : Int)) < (3 : Int)) = false →
 ((!withinN x.fst.snd.snd.fst.fst) = true → (1 : Int) = checkI x.fst) ∧
 ((!withinN x.fst.snd.snd.fst.fst) = false → (0 : Int) = checkI x.fst))) ∧
 (withinN x.fst.snd.snd.snd.fst = false →
 (decide (IntKind.wrap IntKind.i64 ((0 : Int) + (1 : Int)) < (3 : Int)) = true →
 ((0 : Int) ≤ IntKind.wrap IntKind.i64 ((0 : Int) + (1 : Int)) ∧
 IntKind.wrap IntKind.i64 ((0 : Int) + (1 : Int)) < (↑(3 : Nat) : Int)) ∧
 (decide
 (IntKind.wrap IntKind.i64 (IntKind.wrap IntKind.i64 ((0 : Int) + (1 : Int)) + (1 : Int)) <
 (3 : Int)) =
 true →
 ((0 : Int) ≤
 IntKind.wrap IntKind.i64
 (IntKind.wrap IntKind.i64 ((0 : Int) + (1 : Int)) + (1 : Int)) ∧
 IntKind.wrap IntKind.i64 (IntKind.wrap IntKind.i64 ((0 : Int) + (1 : Int)) + (1 : Int)) <
 (↑(3 : Nat) : Int)) ∧
 (decide
 (IntKind.wrap IntKind.i64
 (IntKind.wrap IntKind.i64
 (IntKind.wrap IntKind.i64 ((0 : Int) + (1 : Int)) + (1 : Int)) +
 (1 : Int)) <
 (3 : Int)) =
 true →
 False) ∧
 (decide
 (IntKind.wrap IntKind.i64
 (IntKind.wrap IntKind.i64
 (IntKind.wrap IntKind.i64 ((0 : Int) + (1 : Int)) + (1 : Int)) +
 (1 : Int)) <
 (3 : Int)) =
 false →
 ((!false) = true → (1 : Int) = checkI x.fst) ∧
 ((!false) = false → (0 : Int) = checkI x.fst))) ∧
 (decide
 (IntKind.wrap IntKind.i64 (IntKind.wrap IntKind.i64 ((0 : Int) + (1 : Int)) + (1 : Int)) <
 (3 : Int)) =
 false →
 ((!false) = true → (1 : Int) = checkI x.fst) ∧
 ((!false) = false → (0 : Int) = checkI x.fst))) ∧
 (decide (IntKind.wrap IntKind.i64 ((0 : Int) + (1 : Int)) < (3 : Int)) = false →
 ((!false) = true → (1 : Int) = checkI x.fst) ∧ ((!false) = false → (0 : Int) = checkI x.fst)))) ∧
 (decide ((0 : Int) < (3 : Int)) = false →
 ((!withinN x.fst.snd.snd.snd.fst) = true → (1 : Int) = checkI x.fst) ∧
 ((!withinN x.fst.snd.snd.snd.fst) = false → (0 : Int) = checkI x.fst))
theorem vcEq64 : fnVC E64 Tryz.f64 (bodyOf Tryz.f64) cCheck = vc64 := by kernel_rfl
def hs65 : List (Nat × Nat × Hint) := []
def nm65 : List Nat := [3000000023]
noncomputable def E65 : Env := env tab [(99, cMeld), (100, cInnerOf)] [] gl hs65 nm65
def vc65 : Prop :=
 ∀
 (x :
 Nd ×
 Nd × Unit),
 WfN x.fst ∧ WfN x.snd.fst →
 (NT.isNil x.fst = true → x.snd.fst = join x.fst x.snd.fst) ∧
 (NT.isNil x.fst = false →
 (NT.isNil x.snd.fst = true → x.fst = join x.fst x.snd.fst) ∧
 (NT.isNil x.snd.fst = false →
 (∃ (h : Nat), ∃ (k : Nat), h ≤ (100 : Nat) ∧ k ≤ (100 : Nat) ∧ Wf h true x.fst ∧ Wf k true x.snd.fst) ∧
 (((↑(List.length (meld x.fst x.snd.fst)) : Int) == (1 : Int)) = true →
 ((0 : Int) ≤ (0 : Int) ∧ (0 : Int) < (↑(List.length (meld x.fst x.snd.fst)) : Int)) ∧
 List.getD (meld x.fst x.snd.fst) (Int.toNat (0 : Int)) (NT.nil : Nd) = join x.fst x.snd.fst) ∧
 (((↑(List.length (meld x.fst x.snd.fst)) : Int) == (1 : Int)) = false →
 ((1 : Nat) ≤ List.length (meld x.fst x.snd.fst) ∧ List.length (meld x.fst x.snd.fst) ≤ maxLen) ∧
 Option.isSome (some (meld x.fst x.snd.fst, mkNx (meld x.fst x.snd.fst))) = true ∧
 NT.ofInner (some (meld x.fst x.snd.fst, mkNx (meld x.fst x.snd.fst))) = join x.fst x.snd.fst)))
theorem vcEq65 : fnVC E65 Tryz.f65 (bodyOf Tryz.f65) cJoin = vc65 := by kernel_rfl
def hs66 : List (Nat × Nat × Hint) := []
def nm66 : List Nat := [3000000023]
noncomputable def E66 : Env := env tab [(101, cAllS)] [] gl hs66 nm66
def vc66 : Prop :=
 ∀ (x : List Itm × Unit),
 List.length x.fst ≤ maxLen → List.length x.fst ≤ maxLen ∧ some (x.fst, allS x.fst, ()) = some (mkLf x.fst)
theorem vcEq66 : fnVC E66 Tryz.f66 (bodyOf Tryz.f66) cLeafOf = vc66 := by kernel_rfl
def hs69 : List (Nat × Nat × Hint) := []
def nm69 : List Nat := [3000000023]
noncomputable def E69 : Env := env tab [(72, cTop), (74, cSumOf)] [] gl hs69 nm69
def vc69 : Prop :=
 ∀ (x : Option (Nd × Unit) × Unit),
 True → True ∧ True ∧ sumOf (topT x.fst) = sumOf (topT x.fst)
theorem vcEq69 : fnVC E69 Tryz.f69 (bodyOf Tryz.f69) cSum = vc69 := by kernel_rfl
def hs72 : List (Nat × Nat × Hint) := []
def nm72 : List Nat := [3000000023]
noncomputable def E72 : Env := env tab [] [] gl hs72 nm72
def vc72 : Prop :=
 ∀ (x : Option (Nd × Unit) × Unit),
 True →
 (Option.isNone x.fst = true → (NT.nil : Nd) = topT x.fst) ∧
 (Option.isNone x.fst = false →
 Option.isSome x.fst = true ∧ (List.getD (optL x.fst) (0 : Nat) (Ty.dflt t137)).fst = topT x.fst)
theorem vcEq72 : fnVC E72 Tryz.f72 (bodyOf Tryz.f72) cTop = vc72 := by kernel_rfl
def hs73 : List (Nat × Nat × Hint) := [(0, 3, ⟨[], [], [], [4000000000, 4]⟩),
  (740058, 3, ⟨[], [], [], [4000000000, 4]⟩),
  (1480116, 3, ⟨[], [], [], [4000000000, 4]⟩),
  (2220174, 3, ⟨[], [], [], [4000000000, 4]⟩),
  (2960232, 3, ⟨[], [], [], [4000000000, 4]⟩),
  (3700290, 3, ⟨[], [], [], [4000000000, 4]⟩),
  (4440348, 3, ⟨[], [], [], [4000000000, 4]⟩),
  (5180406, 3, ⟨[], [], [], [4000000000, 4]⟩),
  (5920464, 3, ⟨[], [], [], [4000000000, 4]⟩)]
def nm73 : List Nat := [3000000023]
noncomputable def E73 : Env := env tab [] [] gl hs73 nm73
def vc73 : Prop :=
 ∀
 (x :
 Sm × Sm × Unit),
 let y := x.snd.fst.snd;
 let y_1 := x.snd.fst.fst;
 let y_2 := addS x.fst x.snd.fst;
 let y_3 := x.fst.snd;
 let y_4 := x.fst.fst == (0 : Int);
 let y_5 := IntKind.wrap IntKind.i64 (y_3.fst.fst + y.fst.fst);
 let y_6 := IntKind.wrap IntKind.i64 (y_3.fst.snd.fst + y.fst.snd.fst);
 let y_7 := y_3.snd;
 let y_8 := (y_5, (0 : Int), (0 : Int), ());
 let y_9 := IntKind.wrap IntKind.i64 (x.fst.fst + y_1);
 let y_10 := decide (y_1 > (0 : Int));
 let y_11 := (y_9, ((0 : Int), (0 : Int), (0 : Int), ()), y_7);
 let y_12 := (y_5, y_6, IntKind.wrap IntKind.i64 (y_3.fst.snd.snd.fst + y.fst.snd.snd.fst), ());
 let y_13 := decide (y.snd.fst > y_7.fst);
 let y_14 := (y_5, y_6, (0 : Int), ());
 let y := (y.snd.fst, IntKind.wrap IntKind.i64 (x.fst.fst + y.snd.snd.fst), ());
 let y_15 := (y_9, y_8, y_7);
 let y_16 := (y_9, y_8, y);
 let y_17 := (y_9, ((0 : Int), (0 : Int), (0 : Int), ()), y);
 let y_18 := (y_9, y_14, y);
 let y_19 := (y_9, y_14, y_7);
 let y := (y_9, y_12, y);
 let y_20 := (y_9, y_12, y_7);
 True →
 (decide ((0 : Int) < (3 : Int)) = true →
 ((0 : Int) ≤ (0 : Int) ∧ (0 : Int) < (↑(3 : Nat) : Int)) ∧
 ((0 : Int) ≤ (0 : Int) ∧ (0 : Int) < (↑(3 : Nat) : Int)) ∧
 ((0 : Int) ≤ (0 : Int) ∧ (0 : Int) < (↑(3 : Nat) : Int)) ∧
 (decide (IntKind.wrap IntKind.i64 ((0 : Int) + (1 : Int)) < (3 : Int)) = true →
 ((0 : Int) ≤ IntKind.wrap IntKind.i64 ((0 : Int) + (1 : Int)) ∧
 IntKind.wrap IntKind.i64 ((0 : Int) + (1 : Int)) < (↑(3 : Nat) : Int)) ∧
 ((0 : Int) ≤ IntKind.wrap IntKind.i64 ((0 : Int) + (1 : Int)) ∧
 IntKind.wrap IntKind.i64 ((0 : Int) + (1 : Int)) < (↑(3 : Nat) : Int)) ∧
 ((0 : Int) ≤ IntKind.wrap IntKind.i64 ((0 : Int) + (1 : Int)) ∧
 IntKind.wrap IntKind.i64 ((0 : Int) + (1 : Int)) < (↑(3 : Nat) : Int)) ∧
 (decide
 (IntKind.wrap IntKind.i64
 (IntKind.wrap IntKind.i64 ((0 : Int) + (1 : Int)) + (1 : Int)) <
 (3 : Int)) =
 true →
 ((0 : Int) ≤
 IntKind.wrap IntKind.i64
 (IntKind.wrap IntKind.i64 ((0 : Int) + (1 : Int)) + (1 : Int)) ∧
 IntKind.wrap IntKind.i64
 (IntKind.wrap IntKind.i64 ((0 : Int) + (1 : Int)) + (1 : Int)) <
 (↑(3 : Nat) : Int)) ∧
 ((0 : Int) ≤
 IntKind.wrap IntKind.i64
 (IntKind.wrap IntKind.i64 ((0 : Int) + (1 : Int)) + (1 : Int)) ∧
 IntKind.wrap IntKind.i64
 (IntKind.wrap IntKind.i64 ((0 : Int) + (1 : Int)) + (1 : Int)) <
 (↑(3 : Nat) : Int)) ∧
 ((0 : Int) ≤
 IntKind.wrap IntKind.i64
 (IntKind.wrap IntKind.i64 ((0 : Int) + (1 : Int)) + (1 : Int)) ∧
 IntKind.wrap IntKind.i64
 (IntKind.wrap IntKind.i64 ((0 : Int) + (1 : Int)) + (1 : Int)) <
 (↑(3 : Nat) : Int)) ∧
 (decide
 (IntKind.wrap IntKind.i64
 (IntKind.wrap IntKind.i64
 (IntKind.wrap IntKind.i64 ((0 : Int) + (1 : Int)) + (1 : Int)) +
 (1 : Int)) <
 (3 : Int)) =
 true →
 ((0 : Int) ≤
 IntKind.wrap IntKind.i64
 (IntKind.wrap IntKind.i64
 (IntKind.wrap IntKind.i64 ((0 : Int) + (1 : Int)) + (1 : Int)) +
 (1 : Int)) ∧
 IntKind.wrap IntKind.i64
 (IntKind.wrap IntKind.i64
 (IntKind.wrap IntKind.i64 ((0 : Int) + (1 : Int)) + (1 : Int)) +
 (1 : Int)) <
 (↑(3 : Nat) : Int)) ∧
 ((0 : Int) ≤
 IntKind.wrap IntKind.i64
 (IntKind.wrap IntKind.i64
 (IntKind.wrap IntKind.i64 ((0 : Int) + (1 : Int)) + (1 : Int)) +
 (1 : Int)) ∧
 IntKind.wrap IntKind.i64
 (IntKind.wrap IntKind.i64
 (IntKind.wrap IntKind.i64 ((0 : Int) + (1 : Int)) + (1 : Int)) +
 (1 : Int)) <
 (↑(3 : Nat) : Int)) ∧
 ((0 : Int) ≤
 IntKind.wrap IntKind.i64
 (IntKind.wrap IntKind.i64
 (IntKind.wrap IntKind.i64 ((0 : Int) + (1 : Int)) + (1 : Int)) +
 (1 : Int)) ∧
 IntKind.wrap IntKind.i64
 (IntKind.wrap IntKind.i64
 (IntKind.wrap IntKind.i64 ((0 : Int) + (1 : Int)) + (1 : Int)) +
 (1 : Int)) <
 (↑(3 : Nat) : Int)) ∧
 False) ∧
 (decide
 (IntKind.wrap IntKind.i64
 (IntKind.wrap IntKind.i64
 (IntKind.wrap IntKind.i64 ((0 : Int) + (1 : Int)) + (1 : Int)) +
 (1 : Int)) <
 (3 : Int)) =
 false →
 (y_10 = true →
 (y_4 = true → y = y_2) ∧
 (y_4 = false → (y_13 = true → y = y_2) ∧ (y_13 = false → y_20 = y_2))) ∧
 (y_10 = false → y_20 = y_2))) ∧
 (decide
 (IntKind.wrap IntKind.i64
 (IntKind.wrap IntKind.i64 ((0 : Int) + (1 : Int)) + (1 : Int)) <
 (3 : Int)) =
 false →
 (y_10 = true →
 (y_4 = true → y_18 = y_2) ∧
 (y_4 = false → (y_13 = true → y_18 = y_2) ∧ (y_13 = false → y_19 = y_2))) ∧
 (y_10 = false → y_19 = y_2))) ∧
 (decide (IntKind.wrap IntKind.i64 ((0 : Int) + (1 : Int)) < (3 : Int)) = false →
 (y_10 = true →
 (y_4 = true → y_16 = y_2) ∧
 (y_4 = false → (y_13 = true → y_16 = y_2) ∧ (y_13 = false → y_15 = y_2))) ∧
 (y_10 = false → y_15 = y_2))) ∧
 (decide ((0 : Int) < (3 : Int)) = false →
 (y_10 = true →
 (y_4 = true → y_17 = y_2) ∧ (y_4 = false → (y_13 = true → y_17 = y_2) ∧ (y_13 = false → y_11 = y_2))) ∧
 (y_10 = false → y_11 = y_2))
theorem vcEq73 : fnVC E73 Tryz.f73 (bodyOf Tryz.f73) cAddS = vc73 := by kernel_rfl
def hs74 : List (Nat × Nat × Hint) := []
def nm74 : List Nat := [3000000023]
noncomputable def E74 : Env := env tab [] [] gl hs74 nm74
def vc74 : Prop :=
 ∀ (x : Nd × Unit),
 True →
 (Option.isSome (NT.asLeaf x.fst) = true →
 Option.isSome (NT.asLeaf x.fst) = true ∧
 (List.getD (optL (NT.asLeaf x.fst)) (0 : Nat) (([], zS, ()) : Lf)).snd.fst = sumOf x.fst) ∧
 (Option.isSome (NT.asLeaf x.fst) = false →
 (Option.isSome (NT.asInner x.fst) = true →
 Option.isSome (NT.asInner x.fst) = true ∧
 (List.getD (optL (NT.asInner x.fst)) (0 : Nat)
 (([], (0, zS, ())) : List Nd × Nx)).snd.snd.fst =
 sumOf x.fst) ∧
 (Option.isSome (NT.asInner x.fst) = false →
 ((0 : Int), ((0 : Int), (0 : Int), (0 : Int), ()), (0 : Int), (0 : Int), ()) = sumOf x.fst))
theorem vcEq74 : fnVC E74 Tryz.f74 (bodyOf Tryz.f74) cSumOf = vc74 := by kernel_rfl
def hs75 : List (Nat × Nat × Hint) := []
def nm75 : List Nat := [3000000023]
noncomputable def E75 : Env := env tab [] [] gl hs75 nm75
def vc75 : Prop :=
 ∀ (x : Itm × Unit),
 True → ((1 : Int), x.fst.snd.snd.fst, x.fst.snd.snd.snd.fst, (0 : Int), ()) = ofI x.fst
theorem vcEq75 : fnVC E75 Tryz.f75 (bodyOf Tryz.f75) cOfI = vc75 := by kernel_rfl
def hs83 : List (Nat × Nat × Hint) := []
def nm83 : List Nat := [3000000023]
noncomputable def E83 : Env := env tab [] [] gl hs83 nm83
def vc83 : Prop :=
 ∀ (x : Nd × Unit),
 True →
 (Option.isSome (NT.asLeaf x.fst) = true → (1 : Int) = heightOf x.fst) ∧
 (Option.isSome (NT.asLeaf x.fst) = false →
 (Option.isSome (NT.asInner x.fst) = true →
 Option.isSome (NT.asInner x.fst) = true ∧
 (List.getD (optL (NT.asInner x.fst)) (0 : Nat)
 (([], (0, zS, ())) : List Nd × Nx)).snd.fst =
 heightOf x.fst) ∧
 (Option.isSome (NT.asInner x.fst) = false → (0 : Int) = heightOf x.fst))
theorem vcEq83 : fnVC E83 Tryz.f83 (bodyOf Tryz.f83) cHeightOf = vc83 := by kernel_rfl
def hs98 : List (Nat × Nat × Hint) := []
def nm98 : List Nat := [3000000023]
noncomputable def E98 : Env := env tab [] [] gl hs98 nm98
def vc98 : Prop :=
 ∀ (x : Int × Unit),
 True →
 (decide (x.fst ≥ (0 : Int)) = true → decide (x.fst ≤ (1099511627776 : Int)) = withinN x.fst) ∧
 (decide (x.fst ≥ (0 : Int)) = false → false = withinN x.fst)
theorem vcEq98 : fnVC E98 Tryz.f98 (bodyOf Tryz.f98) cWithinN = vc98 := by kernel_rfl
def hs99 : List (Nat × Nat × Hint) := []
def nm99 : List Nat := [3000000023, 4000000012]
noncomputable def E99 (nn : Nat) : Env := env tab [(83, cHeightOf), (99, cMeld.cut muMeld nn), (113, cPut), (112, cRaise), (114, cSpread)] [] gl hs99 nm99
def vc99 (nn : Nat) : Prop :=
 ∀
 (x :
 Nd ×
 Nd × Unit),
 let y :=  List.replicate (Int.toNat (0 : Int))  ((0 : Int), (0 : Int), ((0 : Int), (0 : Int), (0 : Int), ()), (0 : Int), ByteArray.empty, ()) ++  (List.getD (optL (NT.asLeaf x.fst)) (0 : Nat) (([], zS, ()) : Lf)).fst;
 let y_1 :=  (List.getD (optL (NT.asInner x.fst)) (0 : Nat)  (([], (0, zS, ())) : List Nd × Nx)).fst;
 let y_2 :=  List.length  (List.replicate (Int.toNat (0 : Int))  ((0 : Int), (0 : Int), ((0 : Int), (0 : Int), (0 : Int), ()), (0 : Int), ByteArray.empty, ())) +  List.length (List.getD (optL (NT.asLeaf x.fst)) (0 : Nat) (([], zS, ()) : Lf)).fst;
 let y_3 :=  IntKind.wrap IntKind.i64  ((↑(List.length (List.getD (optL (NT.asLeaf x.fst)) (0 : Nat) (([], zS, ()) : Lf)).fst) : Int) +  (↑(List.length (List.getD (optL (NT.asLeaf x.snd.fst)) (0 : Nat) (([], zS, ()) : Lf)).fst) : Int));
 let y_4 :=  (List.getD (optL (NT.asInner x.snd.fst)) (0 : Nat)  (([], (0, zS, ())) : List Nd × Nx)).fst;
 let y_5 := x.snd.fst;
 let y_6 := x.fst;
 let y_7 := Option.isSome (NT.asInner y_6);
 let y_8 := Option.isSome (NT.asLeaf y_6);
 let y_9 := Option.isSome (NT.asInner y_6);
 let y_10 := Option.isSome (NT.asLeaf y_5);
 let y_11 := meld y_6 y_5;
 let y_12 := Option.isSome (NT.asInner y_5);
 let y_13 := (List.getD (optL (NT.asLeaf y_5)) (0 : Nat) (([], zS, ()) : Lf)).fst;
 let y_14 := Option.isSome (NT.asInner y_5);
 let y_15 := decide (heightOf y_6 < heightOf y_5);
 let y_16 :=  List.getD y_4 (Int.toNat (0 : Int))  (NT.nil : Nd);
 let y_17 := List.drop (Int.toNat (1 : Int)) y_4;
 let y_18 := (↑(List.length y_4) : Int);
 let y_19 := meld y_6 y_16 ++ y_17;
 let y_20 := y_3 * (↑(64 : Nat) : Int);
 let y_21 := y_2 * (64 : Nat);
 let y_22 := IntKind.wrap IntKind.i64 ((↑(List.length y_1) : Int) - (1 : Int));
 let y_23 := y_1 ++ y_4;
 let y_24 := (↑(List.length y_1) : Int);
 let y_25 :=  List.getD y_1 (Int.toNat y_22) (NT.nil : Nd);
 let y_26 := List.take (Int.toNat y_22) y_1 ++ meld y_25 y_5;
 let y_27 := y ++ y_13;
 let y := List.length y + List.length y_13;
 let y_28 := y * (64 : Nat);
 (∃ (h : Nat), ∃ (k : Nat), h ≤ (100 : Nat) ∧ k ≤ (100 : Nat) ∧ Wf h true y_6 ∧ Wf k true y_5) ∧
 muMeld x < nn + (1 : Nat) →
 True ∧
 True ∧
 (decide (heightOf y_6 > heightOf y_5) = true →
 y_9 = true ∧
 y_7 = true ∧
 y_7 = true ∧
 ((0 : Int) ≤ y_22 ∧ y_22 ≤ y_24) ∧
 y_7 = true ∧
 ((0 : Int) ≤ y_22 ∧ y_22 < y_24) ∧
 ((∃ (h : Nat),
 ∃ (k : Nat), h ≤ (100 : Nat) ∧ k ≤ (100 : Nat) ∧ Wf h true y_25 ∧ Wf k true y_5) ∧
 muMeld (y_25, x.snd) < nn) ∧
 (List.length (List.take (Int.toNat y_22) y_1) ≤ (100000 : Nat) ∧
 List.length (meld y_25 y_5) ≤ (100000 : Nat)) ∧
 ((1 : Nat) ≤ List.length y_26 ∧ List.length y_26 ≤ (100000 : Nat)) ∧ raise y_26 = y_11) ∧
 (decide (heightOf y_6 > heightOf y_5) = false →
 (y_15 = true →
 y_14 = true ∧
 y_12 = true ∧
 ((0 : Int) ≤ (0 : Int) ∧ (0 : Int) < y_18) ∧
 ((∃ (h : Nat), ∃ (k : Nat), h ≤ (100 : Nat) ∧ k ≤ (100 : Nat) ∧ Wf h true y_6 ∧ Wf k true y_16) ∧
 muMeld (y_6, y_16, ()) < nn) ∧
 y_12 = true ∧
 ((0 : Int) ≤ (1 : Int) ∧ (1 : Int) ≤ y_18) ∧
 (List.length (meld y_6 y_16) ≤ (100000 : Nat) ∧ List.length y_17 ≤ (100000 : Nat)) ∧
 ((1 : Nat) ≤ List.length y_19 ∧ List.length y_19 ≤ (100000 : Nat)) ∧ raise y_19 = y_11) ∧
 (y_15 = false →
 (y_8 = true →
 y_10 = true ∧
 y_8 = true ∧
 y_10 = true ∧
 ((((0 : Int) ≤ (0 : Int) ∧
 (0 : Int) ≤ y_3 ∧ y_20 ≤ (140737488355328 : Int) ∧ y_3 ≤ (1000000000000 : Int)) ∧
 y_8 = true ∧
 y_21 ≤ (140737488355328 : Nat) ∧
 y_2 ≤ maxLen ∧
 y_10 = true ∧
 y_28 ≤ (140737488355328 : Nat) ∧
 y ≤ maxLen ∧ List.length y_27 ≤ (100000 : Nat) ∧ spread y_27 = y_11) ∧
 (((0 : Int) ≤ (0 : Int) ∧
 (0 : Int) ≤ y_3 ∧ y_20 ≤ (140737488355328 : Int) ∧ y_3 ≤ (1000000000000 : Int)) ∧
 y_8 = true ∧
 y_21 ≤ (140737488355328 : Nat) ∧
 y_2 ≤ maxLen ∧
 y_10 = true ∧
 y_28 ≤ (140737488355328 : Nat) ∧
 y ≤ maxLen ∧ List.length y_27 ≤ (100000 : Nat) ∧ spread y_27 = y_11) ∧
 ((0 : Int) ≤ (0 : Int) ∧
 (0 : Int) ≤ y_3 ∧ y_20 ≤ (140737488355328 : Int) ∧ y_3 ≤ (1000000000000 : Int)) ∧
 y_8 = true ∧
 y_21 ≤ (140737488355328 : Nat) ∧
 y_2 ≤ maxLen ∧
 y_10 = true ∧
 y_28 ≤ (140737488355328 : Nat) ∧
 y ≤ maxLen ∧ List.length y_27 ≤ (100000 : Nat) ∧ spread y_27 = y_11) ∧
 ((((0 : Int) ≤ (0 : Int) ∧
 (0 : Int) ≤ y_3 ∧ y_20 ≤ (140737488355328 : Int) ∧ y_3 ≤ (1000000000000 : Int)) ∧
 y_8 = true ∧
 y_21 ≤ (140737488355328 : Nat) ∧
 y_2 ≤ maxLen ∧
 y_10 = true ∧
 y_28 ≤ (140737488355328 : Nat) ∧
 y ≤ maxLen ∧ List.length y_27 ≤ (100000 : Nat) ∧ spread y_27 = y_11) ∧
 ((0 : Int) ≤ (0 : Int) ∧
 (0 : Int) ≤ y_3 ∧ y_20 ≤ (140737488355328 : Int) ∧ y_3 ≤ (1000000000000 : Int)) ∧
 y_8 = true ∧
 y_21 ≤ (140737488355328 : Nat) ∧
 y_2 ≤ maxLen ∧
 y_10 = true ∧
 y_28 ≤ (140737488355328 : Nat) ∧
 y ≤ maxLen ∧ List.length y_27 ≤ (100000 : Nat) ∧ spread y_27 = y_11) ∧
 ((0 : Int) ≤ (0 : Int) ∧
 (0 : Int) ≤ y_3 ∧ y_20 ≤ (140737488355328 : Int) ∧ y_3 ≤ (1000000000000 : Int)) ∧
 y_8 = true ∧
 y_21 ≤ (140737488355328 : Nat) ∧
 y_2 ≤ maxLen ∧
 y_10 = true ∧
 y_28 ≤ (140737488355328 : Nat) ∧
 y ≤ maxLen ∧ List.length y_27 ≤ (100000 : Nat) ∧ spread y_27 = y_11) ∧
 (y_8 = false →
 y_9 = true ∧
 y_7 = true ∧
 y_14 = true ∧
 y_12 = true ∧
 (List.length y_1 ≤ (100000 : Nat) ∧ List.length y_4 ≤ (100000 : Nat)) ∧
 ((1 : Nat) ≤ List.length y_23 ∧ List.length y_23 ≤ (100000 : Nat)) ∧ raise y_23 = y_11)))
theorem vcEq99 (nn : Nat) : fnVC (E99 nn) Tryz.f99 (bodyOf Tryz.f99) (cMeld.cut muMeld (nn + 1)) = vc99 nn := by kernel_rfl
def hs100 : List (Nat × Nat × Hint) := [(0, 3, ⟨[.slot 16 t3, .cell 13 2 t3, .cell 13 3 t3, .cell 13 4 t3, .cell 13 5 t3, .cell 13 6 t3, .cell 13 7 t3], [3, 14, 15], [13], []⟩)]
def nm100 : List Nat := [3000000023]
noncomputable def E100 : Env := env tab [(83, cHeightOf), (74, cSumOf), (73, cAddS)] [] gl hs100 nm100
def vc100 : Prop :=
 ∀ (x : List (Nd) × Unit),
 let y := x.fst;
 let y_1 := IntKind.wrap IntKind.i64 (heightOf (List.getD y (Int.toNat (0 : Int)) (NT.nil : Nd)) + (1 : Int));
 let y_2 := (↑(List.length y) : Int);
 (1 : Nat) ≤ List.length y ∧ List.length y ≤ maxLen →
 ((0 : Int) ≤ (0 : Int) ∧ (0 : Int) < y_2) ∧
 True ∧
 (((0 : Int) = (0 : Int) ∧ True ∧ y = y ∧ y_2 = y_2) ∧
 y = y ∧
 y_1 = y_1 ∧
 (0 : Int) = (0 : Int) ∧
 (0 : Int) = (0 : Int) ∧
 (0 : Int) = (0 : Int) ∧ (0 : Int) = (0 : Int) ∧ (0 : Int) = (0 : Int) ∧ (0 : Int) = (0 : Int)) ∧
 ∃ (Z : Int × Int × Int × Int × Int × Int × Int × Unit → Prop),
 ∃ (μ : Int × Int × Int × Int × Int × Int × Int × Unit → Nat),
 Z ((0 : Int), (0 : Int), (0 : Int), (0 : Int), (0 : Int), (0 : Int), (0 : Int), ()) ∧
 ∀ (a : Int),
 let y_3 := sumOf (List.getD y (Int.toNat a) (NT.nil : Nd));
 let y_4 := IntKind.wrap IntKind.i64 (a + (1 : Int));
 ∀ (a_1 a_2 a_3 a_4 : Int),
 let y_5 := (a_2, a_3, a_4, ());
 ∀ (a_5 a_6 : Int),
 let y_6 := (addS (a_1, y_5, a_5, a_6, ()) y_3).snd;
 let y_7 := (a, a_1, a_2, a_3, a_4, a_5, a_6, ());
 let y_8 := (a_1, y_5, a_5, a_6, ());
 let y_9 := (addS y_8 y_3).fst;
 let y_10 := (y_4, y_9, y_6.fst.fst, y_6.fst.snd.fst, y_6.fst.snd.snd.fst, y_6.snd);
 let y_11 := y_6.fst.snd;
 let y_12 := y_6.snd;
 Z y_7 →
 (decide (a < y_2) = true →
 ((0 : Int) ≤ a ∧ a < y_2) ∧
 True ∧
 True ∧
 ((y_4 = y_4 ∧ True ∧ y = y ∧ y_2 = y_2) ∧
 y = y ∧
 y_1 = y_1 ∧
 y_9 = y_9 ∧
 y_6.fst.fst = y_6.fst.fst ∧
 y_11.fst = y_11.fst ∧
 y_11.snd.fst = y_11.snd.fst ∧
 y_12.fst = y_12.fst ∧ y_12.snd.fst = y_12.snd.fst) ∧
 Z y_10 ∧ μ y_10 < μ y_7) ∧
 (decide (a < y_2) = false → some (y, y_1, y_8, ()) = some (y, mkNx y))
theorem vcEq100 : fnVC E100 Tryz.f100 (bodyOf Tryz.f100) cInnerOf = vc100 := by kernel_rfl
def hs101 : List (Nat × Nat × Hint) := [(0, 3, ⟨[.slot 8 t3, .cell 3 0 t3, .cell 3 1 t3, .cell 3 2 t3, .cell 3 3 t3, .cell 3 4 t3, .cell 3 5 t3], [2, 3, 6, 7], [2, 3], []⟩)]
def nm101 : List Nat := [3000000023]
noncomputable def E101 : Env := env tab [(75, cOfI), (73, cAddS)] [] gl hs101 nm101
def vc101 : Prop :=
 ∀ (x : List Itm × Unit),
 let y := x.fst;
 let y_1 := (↑(List.length y) : Int);
 List.length y ≤ maxLen →
 (((0 : Int) = (0 : Int) ∧ True ∧ True ∧ y = y ∧ y_1 = y_1) ∧
 ((0 : Int) = (0 : Int) ∧
 (0 : Int) = (0 : Int) ∧
 (0 : Int) = (0 : Int) ∧ (0 : Int) = (0 : Int) ∧ (0 : Int) = (0 : Int) ∧ (0 : Int) = (0 : Int)) ∧
 (0 : Int) = (0 : Int) ∧
 (0 : Int) = (0 : Int) ∧
 (0 : Int) = (0 : Int) ∧ (0 : Int) = (0 : Int) ∧ (0 : Int) = (0 : Int) ∧ (0 : Int) = (0 : Int)) ∧
 ∃ (Z : Int × Int × Int × Int × Int × Int × Int × Unit → Prop),
 ∃ (μ : Int × Int × Int × Int × Int × Int × Int × Unit → Nat),
 Z ((0 : Int), (0 : Int), (0 : Int), (0 : Int), (0 : Int), (0 : Int), (0 : Int), ()) ∧
 ∀ (a : Int),
 let y_2 := ofI (List.getD y (Int.toNat a) (Ty.dflt t99));
 let y_3 := IntKind.wrap IntKind.i64 (a + (1 : Int));
 ∀ (a_1 a_2 a_3 a_4 : Int),
 let y_4 := (a_2, a_3, a_4, ());
 ∀ (a_5 a_6 : Int),
 let y_5 := (addS (a_1, y_4, a_5, a_6, ()) y_2).snd;
 let y_6 := (a, a_1, a_2, a_3, a_4, a_5, a_6, ());
 let y_7 := (a_1, y_4, a_5, a_6, ());
 let y_8 := (addS y_7 y_2).fst;
 let y_9 := (y_3, y_8, y_5.fst.fst, y_5.fst.snd.fst, y_5.fst.snd.snd.fst, y_5.snd);
 let y_10 := y_5.fst.snd;
 let y_11 := y_5.snd;
 Z y_6 →
 (decide (a < y_1) = true →
 ((0 : Int) ≤ a ∧ a < y_1) ∧
 True ∧
 True ∧
 ((y_3 = y_3 ∧ True ∧ True ∧ y = y ∧ y_1 = y_1) ∧
 ((0 : Int) = (0 : Int) ∧
 (0 : Int) = (0 : Int) ∧
 (0 : Int) = (0 : Int) ∧
 (0 : Int) = (0 : Int) ∧ (0 : Int) = (0 : Int) ∧ (0 : Int) = (0 : Int)) ∧
 y_8 = y_8 ∧
 y_5.fst.fst = y_5.fst.fst ∧
 y_10.fst = y_10.fst ∧
 y_10.snd.fst = y_10.snd.fst ∧
 y_11.fst = y_11.fst ∧ y_11.snd.fst = y_11.snd.fst) ∧
 Z y_9 ∧ μ y_9 < μ y_6) ∧
 (decide (a < y_1) = false → y_7 = allS y)
theorem vcEq101 : fnVC E101 Tryz.f101 (bodyOf Tryz.f101) cAllS = vc101 := by kernel_rfl
def hs102 : List (Nat × Nat × Hint) := []
def nm102 : List Nat := [3000000023]
noncomputable def E102 : Env := env tab [(100, cInnerOf)] [] gl hs102 nm102
def vc102 : Prop :=
 ∀ (x : List (Nd) × Unit),
 List.length x.fst ≤ (100000 : Nat) →
 (((↑(List.length x.fst) : Int) == (0 : Int)) = true → (NT.nil : Nd) = rowN x.fst) ∧
 (((↑(List.length x.fst) : Int) == (0 : Int)) = false →
 (((↑(List.length x.fst) : Int) == (1 : Int)) = true →
 ((0 : Int) ≤ (0 : Int) ∧ (0 : Int) < (↑(List.length x.fst) : Int)) ∧
 List.getD x.fst (Int.toNat (0 : Int)) (NT.nil : Nd) = rowN x.fst) ∧
 (((↑(List.length x.fst) : Int) == (1 : Int)) = false →
 ((1 : Nat) ≤ List.length x.fst ∧ List.length x.fst ≤ maxLen) ∧
 Option.isSome (some (x.fst, mkNx x.fst)) = true ∧ NT.ofInner (some (x.fst, mkNx x.fst)) = rowN x.fst))
theorem vcEq102 : fnVC E102 Tryz.f102 (bodyOf Tryz.f102) cRowN = vc102 := by kernel_rfl
def hs112 : List (Nat × Nat × Hint) := []
def nm112 : List Nat := [3000000023]
noncomputable def E112 : Env := env tab [(100, cInnerOf)] [] gl hs112 nm112
def vc112 : Prop :=
 ∀ (x : List (Nd) × Unit),
 let y := IntKind.wrap IntKind.i64 (Int.tdiv (↑(List.length x.fst) : Int) (2 : Int));
 let y_1 := x.fst;
 let y_2 := (↑(List.length y_1) : Int);
 let y_3 := List.take (Int.toNat y) y_1;
 let y_4 := List.drop (Int.toNat y) y_1;
 (1 : Nat) ≤ List.length y_1 ∧ List.length y_1 ≤ (100000 : Nat) →
 (decide (y_2 ≤ (8 : Int)) = true →
 ((1 : Nat) ≤ List.length y_1 ∧ List.length y_1 ≤ maxLen) ∧
 Option.isSome (some (y_1, mkNx y_1)) = true ∧ [NT.ofInner (some (y_1, mkNx y_1))] = raise y_1) ∧
 (decide (y_2 ≤ (8 : Int)) = false →
 (2 : Int) ≠ (0 : Int) ∧
 ((0 : Int) ≤ y ∧ y ≤ y ∧ y ≤ y_2) ∧
 ((1 : Nat) ≤ List.length y_3 ∧ List.length y_3 ≤ maxLen) ∧
 Option.isSome (some (y_3, mkNx y_3)) = true ∧
 ((0 : Int) ≤ y ∧ y ≤ y_2) ∧
 ((1 : Nat) ≤ List.length y_4 ∧ List.length y_4 ≤ maxLen) ∧
 Option.isSome (some (y_4, mkNx y_4)) = true ∧
 [NT.ofInner (some (y_3, mkNx y_3)), NT.ofInner (some (y_4, mkNx y_4))] = raise y_1)
theorem vcEq112 : fnVC E112 Tryz.f112 (bodyOf Tryz.f112) cRaise = vc112 := by kernel_rfl
def hs113 : List (Nat × Nat × Hint) := []
def nm113 : List Nat := [3000000023]
noncomputable def E113 : Env := env tab [] [] gl hs113 nm113
def vc113 : Prop :=
 ∀
 (x :
 List (Nd) ×
 List (Nd) × Unit),
 List.length x.fst ≤ (100000 : Nat) ∧ List.length x.snd.fst ≤ (100000 : Nat) →
 ((0 : Int) ≤ (0 : Int) ∧
 (0 : Int) ≤ IntKind.wrap IntKind.i64 ((↑(List.length x.fst) : Int) + (↑(List.length x.snd.fst) : Int)) ∧
 IntKind.wrap IntKind.i64 ((↑(List.length x.fst) : Int) + (↑(List.length x.snd.fst) : Int)) *
 (↑(16 : Nat) : Int) ≤
 (140737488355328 : Int) ∧
 IntKind.wrap IntKind.i64 ((↑(List.length x.fst) : Int) + (↑(List.length x.snd.fst) : Int)) ≤
 (1000000000000 : Int)) ∧
 (List.length (List.replicate (Int.toNat (0 : Int)) (NT.nil : Nd)) + List.length x.fst) * (16 : Nat) ≤
 (140737488355328 : Nat) ∧
 List.length (List.replicate (Int.toNat (0 : Int)) (NT.nil : Nd)) + List.length x.fst ≤ maxLen ∧
 (List.length (List.replicate (Int.toNat (0 : Int)) (NT.nil : Nd) ++ x.fst) + List.length x.snd.fst) * (16 : Nat) ≤
 (140737488355328 : Nat) ∧
 List.length (List.replicate (Int.toNat (0 : Int)) (NT.nil : Nd) ++ x.fst) + List.length x.snd.fst ≤ maxLen ∧
 List.replicate (Int.toNat (0 : Int)) (NT.nil : Nd) ++ x.fst ++ x.snd.fst = x.fst ++ x.snd.fst
theorem vcEq113 : fnVC E113 Tryz.f113 (bodyOf Tryz.f113) cPut = vc113 := by kernel_rfl
def hs114 : List (Nat × Nat × Hint) := []
def nm114 : List Nat := [3000000023]
noncomputable def E114 : Env := env tab [(66, cLeafOf)] [] gl hs114 nm114
def vc114 : Prop :=
 ∀ (x : List Itm × Unit),
 List.length x.fst ≤ (100000 : Nat) →
 (decide ((↑(List.length x.fst) : Int) ≤ (8 : Int)) = true →
 List.length x.fst ≤ maxLen ∧
 Option.isSome (some (mkLf x.fst)) = true ∧ [NT.ofLeaf (some (mkLf x.fst))] = spread x.fst) ∧
 (decide ((↑(List.length x.fst) : Int) ≤ (8 : Int)) = false →
 (2 : Int) ≠ (0 : Int) ∧
 ((0 : Int) ≤ IntKind.wrap IntKind.i64 (Int.tdiv (↑(List.length x.fst) : Int) (2 : Int)) ∧
 IntKind.wrap IntKind.i64 (Int.tdiv (↑(List.length x.fst) : Int) (2 : Int)) ≤
 IntKind.wrap IntKind.i64 (Int.tdiv (↑(List.length x.fst) : Int) (2 : Int)) ∧
 IntKind.wrap IntKind.i64 (Int.tdiv (↑(List.length x.fst) : Int) (2 : Int)) ≤
 (↑(List.length x.fst) : Int)) ∧
 List.length
 (List.take (Int.toNat (IntKind.wrap IntKind.i64 (Int.tdiv (↑(List.length x.fst) : Int) (2 : Int))))
 x.fst) ≤
 maxLen ∧
 Option.isSome
 (some
 (mkLf
 (List.take
 (Int.toNat (IntKind.wrap IntKind.i64 (Int.tdiv (↑(List.length x.fst) : Int) (2 : Int))))
 x.fst))) =
 true ∧
 ((0 : Int) ≤ IntKind.wrap IntKind.i64 (Int.tdiv (↑(List.length x.fst) : Int) (2 : Int)) ∧
 IntKind.wrap IntKind.i64 (Int.tdiv (↑(List.length x.fst) : Int) (2 : Int)) ≤
 (↑(List.length x.fst) : Int)) ∧
 List.length
 (List.drop
 (Int.toNat (IntKind.wrap IntKind.i64 (Int.tdiv (↑(List.length x.fst) : Int) (2 : Int))))
 x.fst) ≤
 maxLen ∧
 Option.isSome
 (some
 (mkLf
 (List.drop
 (Int.toNat (IntKind.wrap IntKind.i64 (Int.tdiv (↑(List.length x.fst) : Int) (2 : Int))))
 x.fst))) =
 true ∧
 [NT.ofLeaf
 (some
 (mkLf
 (List.take
 (Int.toNat
 (IntKind.wrap IntKind.i64 (Int.tdiv (↑(List.length x.fst) : Int) (2 : Int))))
 x.fst))),
 NT.ofLeaf
 (some
 (mkLf
 (List.drop
 (Int.toNat
 (IntKind.wrap IntKind.i64 (Int.tdiv (↑(List.length x.fst) : Int) (2 : Int))))
 x.fst)))] =
 spread x.fst)
theorem vcEq114 : fnVC E114 Tryz.f114 (bodyOf Tryz.f114) cSpread = vc114 := by kernel_rfl
end Go.Fr.Z14
namespace Go.Fr.Z14
open Go Go.Fr Go.Proofs
theorem ka (a : Nd) (d : List Nd × Nx) (hd : d = ([], (0, zS, ()))) : ((optL (NT.asInner a)).getD 0 d).1 = kidsOf a := by
  subst hd
  cases a <;> rfl
theorem ka' (a : Nd) : ((optL (NT.asInner a)).getD 0 (([], (0, zS, ())) : List Nd × Nx)).1 = kidsOf a := ka a _ rfl
theorem la' (a : Nd) : ((optL (NT.asLeaf a)).getD 0 (([], zS, ()) : Lf)).1 = itemsOf a := by
  cases a <;> rfl
theorem p98 : vc98 := by
  unfold vc98
  rintro ⟨n, ⟨⟩⟩ -
  simp only [withinN]
  refine ⟨fun h => ?_, fun h => ?_⟩
  · rw [show decide (0 ≤ n) = true from by simp at h ⊢; omega]; rfl
  · rw [show decide (0 ≤ n) = false from by simp at h ⊢; omega]; rfl
theorem w1 : IntKind.i64.wrap (0 + 1) = 1 := by decide
theorem w2 : IntKind.i64.wrap (1 + 1) = 2 := by decide
theorem w3 : IntKind.i64.wrap (2 + 1) = 3 := by decide
theorem w4 : IntKind.i64.wrap (3 + 1) = 4 := by decide
theorem p64 : vc64 := by
  unfold vc64
  rintro ⟨x, ⟨⟩⟩ -
  simp only [w1, w2, w3]
  unfold checkI
  cases withinN x.2.2.2.1 <;> cases withinN x.2.2.1.1 <;> cases withinN x.2.2.1.2.1 <;> cases withinN x.2.2.1.2.2.1 <;> simp
theorem p75 : vc75 := by
  unfold vc75
  rintro ⟨x, ⟨⟩⟩ -
  rfl
theorem p73 : vc73 := by
  unfold vc73
  simp only [decide_eq_true_eq, decide_eq_false_iff_not, beq_iff_eq, beq_eq_false_iff_ne, ne_eq]
  rintro ⟨a, b, ⟨⟩⟩ -
  simp only [w1, w2, w3]
  have yes : b.1 > 0 → (a.1 = 0 ∨ b.2.2.1 > a.2.2.1) → (IntKind.i64.wrap (a.1 + b.1), (IntKind.i64.wrap (a.2.1.1 + b.2.1.1), IntKind.i64.wrap (a.2.1.2.1 + b.2.1.2.1), IntKind.i64.wrap (a.2.1.2.2.1 + b.2.1.2.2.1), ()), b.2.2.1, IntKind.i64.wrap (a.1 + b.2.2.2.1), ()) = addS a b := fun h1 h2 => by
    unfold addS
    rw [if_pos ⟨h1, h2⟩]
    rfl
  have no : ¬ (b.1 > 0 ∧ (a.1 = 0 ∨ b.2.2.1 > a.2.2.1)) → (IntKind.i64.wrap (a.1 + b.1), (IntKind.i64.wrap (a.2.1.1 + b.2.1.1), IntKind.i64.wrap (a.2.1.2.1 + b.2.1.2.1), IntKind.i64.wrap (a.2.1.2.2.1 + b.2.1.2.2.1), ()), a.2.2.1, a.2.2.2.1, ()) = addS a b := fun h1 => by
    unfold addS
    rw [if_neg h1]
    rfl
  (repeat' (first | apply And.intro | intro _))
  all_goals first
    | (exfalso; omega)
    | exact yes (by assumption) (.inl (by assumption))
    | exact yes (by assumption) (.inr (by assumption))
    | exact no (fun hh => hh.2.elim (by assumption) (by assumption))
    | exact no (fun hh => absurd hh.1 (by assumption))
    | omega
    | decide
theorem p83 : vc83 := by
  unfold vc83
  rintro ⟨x, ⟨⟩⟩ -
  cases x with
  | nil => exact ⟨fun h => (by cases h), fun _ => ⟨fun h => (by cases h), fun _ => rfl⟩⟩
  | leaf a => exact ⟨fun _ => rfl, fun h => by cases h⟩
  | inner ks b => exact ⟨fun h => (by cases h), fun _ => ⟨fun _ => ⟨rfl, rfl⟩, fun h => by cases h⟩⟩
theorem p74 : vc74 := by
  unfold vc74
  try simp only [eq_self, true_and, and_true, decide_eq_true_eq, decide_eq_false_iff_not, beq_iff_eq, beq_eq_false_iff_ne, bne_iff_ne, bne_eq_false_iff_eq, Bool.not_eq_true', Bool.not_eq_false', ne_eq, imp_true_iff, implies_true]
  rintro ⟨x, ⟨⟩⟩ -
  cases x with
  | nil => exact ⟨fun h => (by cases h), fun _ => ⟨fun h => (by cases h), fun _ => rfl⟩⟩
  | leaf a => exact ⟨fun _ => ⟨rfl, rfl⟩, fun h => by cases h⟩
  | inner ks b => exact ⟨fun h => (by cases h), fun _ => ⟨fun _ => ⟨rfl, rfl⟩, fun h => by cases h⟩⟩
theorem p66 : vc66 := by
  unfold vc66
  rintro ⟨x, ⟨⟩⟩ h
  exact ⟨h, rfl⟩
theorem allS_take {l : List Itm} {k : Nat} (d : Itm) (h : k < l.length) : allS (l.take (k + 1)) = addS (allS (l.take k)) (ofI (l.getD k d)) := by
  rw [take_one d h]
  simp [allS]
theorem sums_take {l : List Nd} {k : Nat} (h : k < l.length) : sums (l.take (k + 1)) = addS (sums (l.take k)) (sumOf (l.getD k .nil)) := by
  rw [take_one .nil h]
  simp [sums]
def Z7 (s : Sm) (a b c d e f : Int) : Prop := s = (a, (b, c, d, ()), e, f, ())
theorem d99 : Ty.dflt t99 = zItm := rfl
theorem p101 : vc101 := by
  unfold vc101
  simp only [eq_self, true_and, and_true, decide_eq_true_eq, decide_eq_false_iff_not]
  rintro ⟨l, ⟨⟩⟩
  simp only [maxLen_eq, d99]
  intro hl
  refine ⟨fun z => ∃ k : Nat, k ≤ l.length ∧ z.1 = (k : Int) ∧ ((z.2.1, (z.2.2.1, z.2.2.2.1, z.2.2.2.2.1, ()), z.2.2.2.2.2.1, z.2.2.2.2.2.2.1, ()) : Sm) = allS (l.take k), fun z => l.length - z.1.toNat, ⟨0, Nat.zero_le _, rfl, rfl⟩, ?_⟩
  rintro i a b c d e f ⟨k, hk, hi, hs⟩
  simp only at hi hs
  subst hi
  rw [hs]
  refine ⟨fun h => ?_, fun h => ?_⟩
  · have hlt : k < l.length := by omega
    have hw : IntKind.i64.wrap ((k : Int) + 1) = ((k + 1 : Nat) : Int) := wrap_succ (by omega)
    have ht := allS_take zItm hlt
    rw [toNat_cast, hw]
    simp only [toNat_cast]
    exact ⟨⟨by omega, h⟩, ⟨k + 1, hlt, rfl, by rw [ht]⟩, by omega⟩
  · have hke : k = l.length := by omega
    rw [hke, List.take_length]
theorem p100 : vc100 := by
  unfold vc100
  simp only [eq_self, true_and, and_true, decide_eq_true_eq, decide_eq_false_iff_not]
  rintro ⟨l, ⟨⟩⟩
  simp only [maxLen_eq]
  rintro ⟨hl0, hl⟩
  refine ⟨by omega, ?_⟩
  refine ⟨fun z => ∃ k : Nat, k ≤ l.length ∧ z.1 = (k : Int) ∧ ((z.2.1, (z.2.2.1, z.2.2.2.1, z.2.2.2.2.1, ()), z.2.2.2.2.2.1, z.2.2.2.2.2.2.1, ()) : Sm) = sums (l.take k), fun z => l.length - z.1.toNat, ⟨0, Nat.zero_le _, rfl, rfl⟩, ?_⟩
  rintro i a b c d e f ⟨k, hk, hi, hs⟩
  simp only at hi hs
  subst hi
  rw [hs]
  refine ⟨fun h => ?_, fun h => ?_⟩
  · have hlt : k < l.length := by omega
    have hw : IntKind.i64.wrap ((k : Int) + 1) = ((k + 1 : Nat) : Int) := wrap_succ (by omega)
    have ht := sums_take hlt
    rw [toNat_cast, hw]
    simp only [toNat_cast]
    have Zf : ∃ k' : Nat, k' ≤ l.length ∧ ((k + 1 : Nat) : Int) = (k' : Int) ∧ addS (sums (l.take k)) (sumOf (l.getD k .nil)) = sums (l.take k') := ⟨k + 1, hlt, rfl, ht.symm⟩
    have d : l.length - (k + 1) < l.length - k := by omega
    repeat' apply And.intro
    all_goals first
      | omega
      | exact Zf
      | exact d
  · have hke : k = l.length := by omega
    rw [hke, List.take_length]
    rfl
theorem half {n : Nat} (h : n ≤ 100000) : IntKind.i64.wrap (Int.tdiv (n : Int) 2) = ((n / 2 : Nat) : Int) := by
  rw [Int.tdiv_eq_ediv_of_nonneg (by omega), wrap_id (by omega) (by omega)]
  omega
theorem p112 : vc112 := by
  unfold vc112
  simp only [decide_eq_true_eq, decide_eq_false_iff_not, ne_eq]
  rintro ⟨l, ⟨⟩⟩
  simp only [maxLen_eq]
  rintro ⟨h1, h2⟩
  rw [half h2]
  simp only [toNat_cast]
  have e8 : ((l.length : Int) ≤ 8) = (l.length ≤ 8) := by rw [eq_iff_iff]; omega
  rw [e8]
  refine ⟨fun h => ⟨⟨h1, by omega⟩, rfl, ?_⟩, fun h => ?_⟩
  · unfold raise; rw [if_pos h]; rfl
  · have t1 : (l.take (l.length / 2)).length = l.length / 2 := by simp; omega
    have t2 : (l.drop (l.length / 2)).length = l.length - l.length / 2 := by simp
    have er : [NT.ofInner (some (l.take (l.length / 2), mkNx (l.take (l.length / 2)))), NT.ofInner (some (l.drop (l.length / 2), mkNx (l.drop (l.length / 2))))] = raise l := by
      unfold raise; rw [if_neg h]; rfl
    rw [t1, t2]
    (repeat' (first | apply And.intro | intro _))
    all_goals first
      | exact er
      | rfl
      | omega
theorem p114 : vc114 := by
  unfold vc114
  simp only [decide_eq_true_eq, decide_eq_false_iff_not, ne_eq]
  rintro ⟨l, ⟨⟩⟩
  simp only [maxLen_eq]
  intro h2
  rw [half h2]
  simp only [toNat_cast]
  have e8 : ((l.length : Int) ≤ 8) = (l.length ≤ 8) := by rw [eq_iff_iff]; omega
  rw [e8]
  refine ⟨fun h => ⟨by omega, rfl, ?_⟩, fun h => ?_⟩
  · unfold spread; rw [if_pos h]; rfl
  · have t1 : (l.take (l.length / 2)).length = l.length / 2 := by simp; omega
    have t2 : (l.drop (l.length / 2)).length = l.length - l.length / 2 := by simp
    have er : [NT.ofLeaf (some (mkLf (l.take (l.length / 2)))), NT.ofLeaf (some (mkLf (l.drop (l.length / 2))))] = spread l := by
      unfold spread; rw [if_neg h]; rfl
    rw [t1, t2]
    (repeat' (first | apply And.intro | intro _))
    all_goals first
      | exact er
      | rfl
      | omega
theorem p113 : vc113 := by
  unfold vc113
  try simp only [eq_self, true_and, and_true, decide_eq_true_eq, decide_eq_false_iff_not, beq_iff_eq, beq_eq_false_iff_ne, bne_iff_ne, bne_eq_false_iff_eq, Bool.not_eq_true', Bool.not_eq_false', ne_eq, imp_true_iff, implies_true]
  rintro ⟨a, b, ⟨⟩⟩
  simp only [maxLen_eq]
  rintro ⟨h1, h2⟩
  have hw : IntKind.i64.wrap ((a.length : Int) + (b.length : Int)) = (a.length : Int) + (b.length : Int) := wrap_id (by omega) (by omega)
  rw [hw]
  simp only [show Int.toNat 0 = 0 from rfl, List.replicate_zero, List.length_nil, List.nil_append]
  (repeat' (first | apply And.intro | intro _))
  all_goals first
    | omega
    | rfl
    | trivial
theorem p102 : vc102 := by
  unfold vc102
  simp only [beq_iff_eq, beq_eq_false_iff_ne, ne_eq]
  rintro ⟨l, ⟨⟩⟩
  simp only [maxLen_eq]
  intro h1
  unfold rowN
  refine ⟨fun h => by rw [if_pos (by omega)], fun h => ⟨fun h2 => ⟨by omega, by rw [if_neg (by omega), if_pos (by omega)]; rfl⟩, fun h2 => ⟨by omega, rfl, by rw [if_neg (by omega), if_neg (by omega)]; rfl⟩⟩⟩
theorem p72 : vc72 := by
  unfold vc72
  rintro ⟨s, ⟨⟩⟩ -
  cases s with
  | none => exact ⟨fun _ => rfl, fun h => by cases h⟩
  | some s => exact ⟨fun h => (by cases h), fun _ => ⟨rfl, rfl⟩⟩
theorem p69 : vc69 := by
  unfold vc69
  intro x _
  exact ⟨trivial, trivial, rfl⟩
theorem p52 : vc52 := by
  unfold vc52
  intro x _
  exact ⟨trivial, trivial, rfl⟩
theorem meld_gt {h k : Nat} {a b : Nd} (h100 : h ≤ 100) (k100 : k ≤ 100) (wa : Wf h true a) (wb : Wf k true b) (hgt : k < h) :
    (NT.asInner a).isSome = true ∧ 2 ≤ (kidsOf a).length ∧ (kidsOf a).length ≤ 8 ∧ Wf (h - 1) true ((kidsOf a).getD ((kidsOf a).length - 1) .nil) ∧
    meld a b = raise ((kidsOf a).take ((kidsOf a).length - 1) ++ meld ((kidsOf a).getD ((kidsOf a).length - 1) .nil) b) ∧ 1 ≤ (meld ((kidsOf a).getD ((kidsOf a).length - 1) .nil) b).length ∧ (meld ((kidsOf a).getD ((kidsOf a).length - 1) .nil) b).length ≤ 2 := by
  obtain ⟨ea, pa, na⟩ := wf_height wa
  obtain ⟨eb, pb, nb⟩ := wf_height wb
  obtain ⟨h', rfl⟩ : ∃ h', h = h' + 1 := ⟨h - 1, by omega⟩
  cases a with
  | nil => exact absurd rfl na
  | leaf a => have := wa.1; omega
  | inner ks bx =>
    have wa' := wa
    obtain ⟨w1, w2, w3, w4, w5, w6⟩ := wa
    simp only [if_true] at w2
    have wl := wf_top (w6 _ (getD_in .nil (show ks.length - 1 < ks.length by omega)))
    have el := (wf_height wl).1
    have e2 : meld (ks.getD (ks.length - 1) .nil) b = meldF (h' + k) (ks.getD (ks.length - 1) .nil) b := by
      unfold meld
      rw [el, eb]
      rfl
    have e1 : meld (.inner ks bx) b = meldF (h' + k + 1) (.inner ks bx) b := by
      unfold meld
      rw [ea, eb]
      congr 1
      omega
    obtain ⟨⟨i1, i2, _⟩, _⟩ := meld_ok (h' + k) h' k _ b (Nat.le_refl _) (by omega) k100 wl wb
    refine ⟨rfl, w2, w3, wl, ?_, ?_, ?_⟩
    · show _ = raise (ks.take (ks.length - 1) ++ meld (ks.getD (ks.length - 1) .nil) b)
      rw [e1, e2]
      show (if heightOf (.inner ks bx) > heightOf b then _ else _) = _
      rw [if_pos (by rw [ea, eb]; omega)]
      rfl
    · show 1 ≤ (meld (ks.getD (ks.length - 1) .nil) b).length
      rw [e2]; exact i1
    · show (meld (ks.getD (ks.length - 1) .nil) b).length ≤ 2
      rw [e2]; exact i2
theorem meld_lt {h k : Nat} {a b : Nd} (h100 : h ≤ 100) (k100 : k ≤ 100) (wa : Wf h true a) (wb : Wf k true b) (hgt : h < k) :
    (NT.asInner b).isSome = true ∧ 2 ≤ (kidsOf b).length ∧ (kidsOf b).length ≤ 8 ∧ Wf (k - 1) true ((kidsOf b).getD 0 .nil) ∧
    meld a b = raise (meld a ((kidsOf b).getD 0 .nil) ++ (kidsOf b).drop 1) ∧ 1 ≤ (meld a ((kidsOf b).getD 0 .nil)).length ∧ (meld a ((kidsOf b).getD 0 .nil)).length ≤ 2 := by
  obtain ⟨ea, pa, na⟩ := wf_height wa
  obtain ⟨eb, pb, nb⟩ := wf_height wb
  obtain ⟨k', rfl⟩ : ∃ k', k = k' + 1 := ⟨k - 1, by omega⟩
  cases b with
  | nil => exact absurd rfl nb
  | leaf b => have := wb.1; omega
  | inner ks bx =>
    obtain ⟨w1, w2, w3, w4, w5, w6⟩ := wb
    simp only [if_true] at w2
    have wl := wf_top (w6 _ (getD_in .nil (show 0 < ks.length by omega)))
    have el := (wf_height wl).1
    have e2 : meld a (ks.getD 0 .nil) = meldF (h + k') a (ks.getD 0 .nil) := by
      unfold meld
      rw [el, ea]
      rfl
    have e1 : meld a (.inner ks bx) = meldF (h + k' + 1) a (.inner ks bx) := by
      unfold meld
      rw [ea, eb]
      congr 1
    obtain ⟨⟨i1, i2, _⟩, _⟩ := meld_ok (h + k') h k' a _ (Nat.le_refl _) h100 (by omega) wa wl
    refine ⟨rfl, w2, w3, wl, ?_, ?_, ?_⟩
    · show _ = raise (meld a (ks.getD 0 .nil) ++ ks.drop 1)
      rw [e1, e2]
      show (if heightOf a > heightOf (.inner ks bx) then _ else _) = _
      rw [if_neg (by rw [ea, eb]; omega), if_pos (by rw [ea, eb]; omega)]
      rfl
    · show 1 ≤ (meld a (ks.getD 0 .nil)).length
      rw [e2]; exact i1
    · show (meld a (ks.getD 0 .nil)).length ≤ 2
      rw [e2]; exact i2
theorem meld_eq {h : Nat} {a b : Nd} (wa : Wf h true a) (wb : Wf h true b) :
    ((NT.asLeaf a).isSome = true ∧ (NT.asLeaf b).isSome = true ∧ (itemsOf a).length ≤ 8 ∧ (itemsOf b).length ≤ 8 ∧ meld a b = spread (itemsOf a ++ itemsOf b)) ∨
    ((NT.asLeaf a).isSome = false ∧ (NT.asInner a).isSome = true ∧ (NT.asInner b).isSome = true ∧ 2 ≤ (kidsOf a).length ∧ (kidsOf a).length ≤ 8 ∧ (kidsOf b).length ≤ 8 ∧ meld a b = raise (kidsOf a ++ kidsOf b)) := by
  obtain ⟨ea, pa, na⟩ := wf_height wa
  obtain ⟨eb, pb, nb⟩ := wf_height wb
  obtain ⟨h', rfl⟩ : ∃ h', h = h' + 1 := ⟨h - 1, by omega⟩
  have e1 : meld a b = if (NT.asLeaf a).isSome = true then spread (itemsOf a ++ itemsOf b) else raise (kidsOf a ++ kidsOf b) := by
    have : meld a b = meldF (h' + 1 + h' + 1) a b := by
      unfold meld
      rw [ea, eb]
      congr 1
    rw [this]
    show (if heightOf a > heightOf b then _ else _) = _
    rw [if_neg (by rw [ea, eb]; omega), if_neg (by rw [ea, eb]; omega)]
  rw [e1]
  cases a with
  | nil => exact absurd rfl na
  | leaf a =>
    have h0 := wa.1
    subst h0
    cases b with
    | nil => exact absurd rfl nb
    | inner ks bx => exact absurd wb.1 (by decide)
    | leaf b => exact .inl ⟨rfl, rfl, wa.2.2.1, wb.2.2.1, rfl⟩
  | inner ks bx =>
    cases b with
    | nil => exact absurd rfl nb
    | leaf b => have := wb.1; have := wa.1; omega
    | inner ls by_ =>
      have := wa.2.1
      simp only [if_true] at this
      exact .inr ⟨rfl, rfl, rfl, this, wa.2.2.1, wb.2.2.1, rfl⟩
theorem p99 (n : Nat) : vc99 n := by
  unfold vc99
  simp only [true_and, decide_eq_true_eq, decide_eq_false_iff_not]
  rintro ⟨a, b, ⟨⟩⟩
  simp only [maxLen_eq, ka', la']
  rintro ⟨⟨h, k, h100, k100, wa, wb⟩, hmu⟩
  obtain ⟨ea, pa, na⟩ := wf_height wa
  obtain ⟨eb, pb, nb⟩ := wf_height wb
  have hmu : h + k < n + 1 := by
    unfold muMeld at hmu
    rw [ea, eb] at hmu
    exact hmu
  rw [ea, eb]
  refine ⟨fun h1 => ?_, fun h1 => ⟨fun h2 => ?_, fun h2 => ?_⟩⟩
  · obtain ⟨m1, m2, m3, m4, m5, m6, m7⟩ := meld_gt h100 k100 wa wb (by omega)
    have hw : IntKind.i64.wrap (((kidsOf a).length : Int) - 1) = (((kidsOf a).length - 1 : Nat) : Int) := by rw [wrap_id (by omega) (by omega)]; omega
    rw [hw]
    simp only [toNat_cast]
    have mu : muMeld ((kidsOf a).getD ((kidsOf a).length - 1) .nil, b, ()) < n := by
      unfold muMeld
      rw [(wf_height m4).1, eb]
      simp only [Int.toNat_natCast]
      omega
    have pre : ∃ h' k' : Nat, h' ≤ 100 ∧ k' ≤ 100 ∧ Wf h' true ((kidsOf a).getD ((kidsOf a).length - 1) .nil) ∧ Wf k' true b := ⟨h - 1, k, by omega, k100, m4, wb⟩
    have tl : ((kidsOf a).take ((kidsOf a).length - 1)).length = (kidsOf a).length - 1 := by rw [List.length_take]; omega
    simp only [List.length_append, tl]
    have fin := m5.symm
    (repeat' (first | apply And.intro | intro _))
    all_goals first
      | exact m1
      | exact pre
      | exact mu
      | exact fin
      | omega
  · obtain ⟨m1, m2, m3, m4, m5, m6, m7⟩ := meld_lt h100 k100 wa wb (by omega)
    simp only [show Int.toNat 0 = 0 from rfl, show Int.toNat 1 = 1 from rfl]
    have mu : muMeld (a, (kidsOf b).getD 0 .nil, ()) < n := by
      unfold muMeld
      rw [(wf_height m4).1, ea]
      simp only [Int.toNat_natCast]
      omega
    have pre : ∃ h' k' : Nat, h' ≤ 100 ∧ k' ≤ 100 ∧ Wf h' true a ∧ Wf k' true ((kidsOf b).getD 0 .nil) := ⟨h, k - 1, h100, by omega, wa, m4⟩
    simp only [List.length_append, List.length_drop]
    have fin := m5.symm
    (repeat' (first | apply And.intro | intro _))
    all_goals first
      | exact m1
      | exact pre
      | exact mu
      | exact fin
      | omega
  · have hk : h = k := by omega
    subst hk
    rcases meld_eq wa wb with ⟨m1, m2, m3, m4, m5⟩ | ⟨m1, m2, m3, m4, m5, m6, m7⟩
    · have hw : IntKind.i64.wrap (((itemsOf a).length : Int) + ((itemsOf b).length : Int)) = ((itemsOf a).length : Int) + ((itemsOf b).length : Int) := wrap_id (by omega) (by omega)
      rw [hw]
      simp only [show Int.toNat 0 = 0 from rfl, List.replicate_zero, List.length_nil, List.nil_append, List.length_append]
      have fin := m5.symm
      refine ⟨fun _ => ?_, fun hh => by rw [m1] at hh; cases hh⟩
      clear h1 h2 hmu ea eb na nb wa wb
      repeat' apply And.intro
      all_goals first
        | exact m1
        | exact m2
        | exact fin
        | omega
    · simp only [List.length_append]
      have fin := m7.symm
      refine ⟨fun hh => (by rw [m1] at hh; cases hh), fun _ => ?_⟩
      clear h1 h2 hmu ea eb na nb wa wb
      repeat' apply And.intro
      all_goals first
        | exact m2
        | exact m3
        | exact fin
        | omega
theorem p65 : vc65 := by
  unfold vc65
  simp only [beq_iff_eq, beq_eq_false_iff_ne, ne_eq]
  rintro ⟨a, b, ⟨⟩⟩
  simp only [maxLen_eq]
  rintro ⟨wa, wb⟩
  unfold join
  refine ⟨fun h => by rw [if_pos h], fun h1 => ⟨fun h2 => by rw [if_neg (by rw [h1]; decide), if_pos h2], fun h2 => ?_⟩⟩
  rw [if_neg (by rw [h1]; decide), if_neg (by rw [h2]; decide)]
  obtain ⟨h, h100, wa⟩ := wa.resolve_left (isNil_f.1 h1)
  obtain ⟨k, k100, wb⟩ := wb.resolve_left (isNil_f.1 h2)
  have em : meld a b = meldF (h + k) a b := by
    unfold meld
    rw [(wf_height wa).1, (wf_height wb).1]
    rfl
  obtain ⟨⟨m1, m2, m3, m4, m5⟩, _, _⟩ := meld_ok (h + k) h k a b (Nat.le_refl _) h100 k100 wa wb
  rw [← em] at m1 m2
  refine ⟨⟨h, k, h100, k100, wa, wb⟩, fun h3 => ⟨by omega, by rw [if_pos (by omega)]; rfl⟩, fun h3 => ⟨by omega, rfl, by rw [if_neg (by omega)]; rfl⟩⟩
theorem p29 : vc29 := by
  unfold vc29
  simp only [eq_self, true_and, and_true, decide_eq_true_eq, decide_eq_false_iff_not, beq_iff_eq, beq_eq_false_iff_ne, bne_iff_ne, bne_eq_false_iff_eq, ne_eq]
  rintro ⟨l, ⟨⟩⟩
  simp only [maxLen_eq, d99]
  intro hl
  refine ⟨fun h => by unfold newT; rw [if_pos (by omega)], fun h => ?_⟩
  have hl3 : l.length ≤ 30000 := by omega
  have fin : ∀ t, t = newT l ↔ t = if (l.all fun x => decide (checkI x = 0)) = true then (some (buildT l, ()), 0, ()) else (none, 1, ()) := fun t => by
    unfold newT
    rw [if_neg (by omega)]
  simp only [fin]
  refine ⟨fun z => ∃ k : Nat, k ≤ l.length ∧ z.2.1 = (k : Int) ∧ z.1 = build l ((k + 7) / 8) ∧ ∀ j, j < k → checkI (l.getD j zItm) = 0, fun z => l.length - z.2.1.toNat, ⟨0, Nat.zero_le _, rfl, rfl, fun j hj => by omega⟩, ?_⟩
  rintro root i ⟨k, hk, hi, hr, hc⟩
  simp only at hi hr
  subst hi
  refine ⟨fun h1 => ?_, fun h1 => ?_⟩
  · have hlt : k < l.length := by omega
    have hw : IntKind.i64.wrap ((k : Int) + 1) = ((k + 1 : Nat) : Int) := wrap_succ (by omega)
    rw [toNat_cast, hw]
    simp only [toNat_cast]
    have dec : l.length - (k + 1) < l.length - k := by omega
    refine ⟨⟨by omega, h1⟩, fun h2 => ?_, fun h2 => ⟨by decide, fun h3 => ?_, fun h3 => ⟨⟨k + 1, hlt, rfl, ?_, ?_⟩, dec⟩⟩⟩
    · have hna : (l.all fun x => decide (checkI x = 0)) = false := by
        rw [List.all_eq_false]
        refine ⟨l.getD k zItm, getD_in zItm hlt, ?_⟩
        simpa using h2
      rw [hna, if_neg (by decide)]
      have : checkI (l.getD k zItm) = 1 := by
        unfold checkI at h2 ⊢
        split at h2
        · exact absurd rfl h2
        · rename_i hh
          rw [if_neg hh]
      rw [this]
    · have hk8 : k % 8 = 0 := by
        rw [Int.tmod_eq_emod_of_nonneg (by omega)] at h3
        omega
      have hws : IntKind.i64.wrap ((l.length : Int) - (k : Int)) = (l.length : Int) - (k : Int) := wrap_id (by omega) (by omega)
      rw [hws]
      have hm : (if (l.length : Int) - (k : Int) < 8 then (l.length : Int) - (k : Int) else 8) = ((min 8 (l.length - k) : Nat) : Int) := by
        split <;> omega
      rw [hm]
      simp only [toNat_cast, List.length_replicate, List.length_drop]
      have hdr : (List.replicate (min 8 (l.length - k)) ((0, 0, (0, 0, 0, ()), 0, ByteArray.empty, ()) : Itm)).drop (l.length - k) = [] := by
        rw [List.drop_eq_nil_iff, List.length_replicate]; omega
      rw [hdr, List.append_nil]
      have htk : (l.drop k).take (min 8 (l.length - k)) = (l.drop k).take 8 := by
        by_cases h8 : 8 ≤ l.length - k
        · rw [show min 8 (l.length - k) = 8 by omega]
        · rw [show min 8 (l.length - k) = l.length - k by omega, List.take_of_length_le (by simp), List.take_of_length_le (by simp; omega)]
      rw [htk]
      have hlen : ((l.drop k).take 8).length = min 8 (l.length - k) := by rw [List.length_take, List.length_drop]
      rw [hlen]
      obtain ⟨b1, b2⟩ := build_ok l hl ((k + 7) / 8) (by omega)
      have wl : WfN (NT.ofLeaf (some (mkLf ((l.drop k).take 8)))) := .inr ⟨1, by omega, wf_leaf (by rw [hlen]; simp; omega) (by rw [hlen]; omega)⟩
      have ej : join root (NT.ofLeaf (some (mkLf ((l.drop k).take 8)))) = build l ((k + 1 + 7) / 8) := by
        have e1 : (k + 1 + 7) / 8 = (k + 7) / 8 + 1 := by omega
        have e2 : 8 * ((k + 7) / 8) = k := by omega
        rw [e1]
        show _ = join (build l ((k + 7) / 8)) (mkLeaf ((l.drop (8 * ((k + 7) / 8))).take 8))
        rw [e2, hr]
        rfl
      rw [ej]
      have hc' : ∀ j, j < k + 1 → checkI (l.getD j zItm) = 0 := fun j hj => by
        by_cases e : j = k
        · subst e; exact h2
        · exact hc j (by omega)
      refine ⟨⟨by omega, by omega, by omega, by omega⟩, ⟨by omega, by omega⟩, by omega, rfl, ⟨by rw [hr]; exact b1, wl⟩, ⟨k + 1, hlt, rfl, rfl, hc'⟩, dec⟩
    · have hk8 : ¬ k % 8 = 0 := by
        rw [Int.tmod_eq_emod_of_nonneg (by omega)] at h3
        omega
      rw [hr, show (k + 1 + 7) / 8 = (k + 7) / 8 by omega]
    · intro j hj
      by_cases e : j = k
      · subst e; exact h2
      · exact hc j (by omega)
  · have hke : k = l.length := by omega
    subst hke
    have ha : (l.all fun x => decide (checkI x = 0)) = true := by
      rw [List.all_eq_true]
      intro x hx
      obtain ⟨j, hj, e⟩ := List.getElem_of_mem hx
      have := hc j hj
      rw [getD_of zItm hj, e] at this
      exact decide_eq_true this
    rw [if_pos ha, hr]
    rfl
end Go.Fr.Z14
namespace Go.Fr.Z14
open Go Go.Fr Go.Proofs
set_option maxRecDepth 100000
def hs5 : List (Nat × Nat × Hint) := [(0, 4, ⟨[.slot 20 t3], [18, 19], [], []⟩)]
def nm5 : List Nat := [3000000023]
noncomputable def E5 : Env := env tab [] [] gl hs5 nm5
def vc5 : Prop :=
 ∀ (x : Int × List Inl × Unit),
 List.length x.snd.fst ≤ maxLen →
 (decide (x.fst < (0 : Int)) = true → true = longW x.fst x.snd.fst) ∧
 (decide (x.fst < (0 : Int)) = false →
 (decide (x.fst > (300 : Int)) = true → true = longW x.fst x.snd.fst) ∧
 (decide (x.fst > (300 : Int)) = false →
 (decide ((↑(List.length x.snd.fst) : Int) > (60 : Int)) = true → true = longW x.fst x.snd.fst) ∧
 (decide ((↑(List.length x.snd.fst) : Int) > (60 : Int)) = false →
 ((0 : Int) = (0 : Int) ∧
 x.snd.fst = x.snd.fst ∧ (↑(List.length x.snd.fst) : Int) = (↑(List.length x.snd.fst) : Int)) ∧
 ∃ (Z : Int × Unit → Prop),
 ∃ (μ : Int × Unit → Nat),
 Z ((0 : Int), ()) ∧
 ∀ (a : Int),
 Z (a, ()) →
 (decide (a < (↑(List.length x.snd.fst) : Int)) = true →
 ((0 : Int) ≤ a ∧ a < (↑(List.length x.snd.fst) : Int)) ∧
 (decide
 ((↑(ByteArray.size
 (List.getD x.snd.fst (Int.toNat a)
 (Ty.dflt t48)).snd.snd.snd.snd.fst) :
 Int) >
 (200 : Int)) =
 true →
 true = longW x.fst x.snd.fst) ∧
 (decide
 ((↑(ByteArray.size
 (List.getD x.snd.fst (Int.toNat a)
 (Ty.dflt t48)).snd.snd.snd.snd.fst) :
 Int) >
 (200 : Int)) =
 false →
 (IntKind.wrap IntKind.i64 (a + (1 : Int)) =
 IntKind.wrap IntKind.i64 (a + (1 : Int)) ∧
 x.snd.fst = x.snd.fst ∧
 (↑(List.length x.snd.fst) : Int) = (↑(List.length x.snd.fst) : Int)) ∧
 Z (IntKind.wrap IntKind.i64 (a + (1 : Int)), ()) ∧
 μ (IntKind.wrap IntKind.i64 (a + (1 : Int)), ()) < μ (a, ()))) ∧
 (decide (a < (↑(List.length x.snd.fst) : Int)) = false → false = longW x.fst x.snd.fst))))
theorem vcEq5 : fnVC E5 Tryz.f5 (bodyOf Tryz.f5) cLong = vc5 := by kernel_rfl
def hs6 : List (Nat × Nat × Hint) := []
def nm6 : List Nat := [3000000023]
noncomputable def E6 : Env := env tab [(7, cNew), (9, cWeave), (18, cOut), (19, cIn), (20, cHeightW)] [] gl hs6 nm6
def vc6 : Prop :=
 ∀ (x : Unit),
 True →
 (List.length [((7 : Int), (1 : Int), (0 : Int), (0 : Int), (ByteArray.mk #[(120 : UInt8), (121 : UInt8)]), ())] ≤
 maxLen ∧
 shortL [((7 : Int), (1 : Int), (0 : Int), (0 : Int), (ByteArray.mk #[(120 : UInt8), (121 : UInt8)]), ())]) ∧
 (List.length
 (allI
 (newI (4 : Int)
 [((7 : Int), (1 : Int), (0 : Int), (0 : Int), (ByteArray.mk #[(120 : UInt8), (121 : UInt8)]),
 ())]).fst) ≤
 (10000 : Nat) ∧
 shortL
 (allI
 (newI (4 : Int)
 [((7 : Int), (1 : Int), (0 : Int), (0 : Int), (ByteArray.mk #[(120 : UInt8), (121 : UInt8)]),
 ())]).fst)) ∧
 WfN
 (topT
 (treeOf
 (weaveI
 (newI (4 : Int)
 [((7 : Int), (1 : Int), (0 : Int), (0 : Int), (ByteArray.mk #[(120 : UInt8), (121 : UInt8)]),
 ())]).fst))) ∧
 WfN
 (topT
 (treeOf
 (weaveI
 (newI (4 : Int)
 [((7 : Int), (1 : Int), (0 : Int), (0 : Int), (ByteArray.mk #[(120 : UInt8), (121 : UInt8)]),
 ())]).fst))) ∧
 okTre
 (treeOf
 (weaveI
 (newI (4 : Int)
 [((7 : Int), (1 : Int), (0 : Int), (0 : Int), (ByteArray.mk #[(120 : UInt8), (121 : UInt8)]),
 ())]).fst)) ∧
 (((newI (4 : Int)
 [((7 : Int), (1 : Int), (0 : Int), (0 : Int), (ByteArray.mk #[(120 : UInt8), (121 : UInt8)]),
 ())]).snd.fst ==
 (0 : Int)) =
 true →
 (((outW
 (weaveI
 (newI (4 : Int)
 [((7 : Int), (1 : Int), (0 : Int), (0 : Int),
 (ByteArray.mk #[(120 : UInt8), (121 : UInt8)]), ())]).fst)
 (1 : Int) (0 : Int)).snd.fst ==
 (0 : Int)) =
 true →
 (((outW
 (weaveI
 (newI (4 : Int)
 [((7 : Int), (1 : Int), (0 : Int), (0 : Int),
 (ByteArray.mk #[(120 : UInt8), (121 : UInt8)]), ())]).fst)
 (1 : Int) (1 : Int)).snd.fst ==
 (0 : Int)) =
 true →
 (((inW
 (weaveI
 (newI (4 : Int)
 [((7 : Int), (1 : Int), (0 : Int), (0 : Int),
 (ByteArray.mk #[(120 : UInt8), (121 : UInt8)]), ())]).fst)
 (2 : Int)).snd.snd.fst ==
 (0 : Int)) =
 true →
 (((outW
 (weaveI
 (newI (4 : Int)
 [((7 : Int), (1 : Int), (0 : Int), (0 : Int),
 (ByteArray.mk #[(120 : UInt8), (121 : UInt8)]), ())]).fst)
 (1 : Int) (0 : Int)).fst ==
 (1 : Int)) =
 true →
 (((outW
 (weaveI
 (newI (4 : Int)
 [((7 : Int), (1 : Int), (0 : Int), (0 : Int),
 (ByteArray.mk #[(120 : UInt8), (121 : UInt8)]), ())]).fst)
 (1 : Int) (1 : Int)).fst ==
 (3 : Int)) =
 true →
 (((inW
 (weaveI
 (newI (4 : Int)
 [((7 : Int), (1 : Int), (0 : Int), (0 : Int),
 (ByteArray.mk #[(120 : UInt8), (121 : UInt8)]), ())]).fst)
 (2 : Int)).fst ==
 (1 : Int)) =
 true →
 (((inW
 (weaveI
 (newI (4 : Int)
 [((7 : Int), (1 : Int), (0 : Int), (0 : Int),
 (ByteArray.mk #[(120 : UInt8), (121 : UInt8)]),
 ())]).fst)
 (2 : Int)).snd.fst ==
 (7 : Int)) =
 true →
 True ∧
 (heightOf
 (topT
 (treeOf
 (weaveI
 (newI (4 : Int)
 [((7 : Int), (1 : Int), (0 : Int), (0 : Int),
 (ByteArray.mk #[(120 : UInt8), (121 : UInt8)]),
 ())]).fst))) ==
 (1 : Int)) =
 true) ∧
 (((inW
 (weaveI
 (newI (4 : Int)
 [((7 : Int), (1 : Int), (0 : Int), (0 : Int),
 (ByteArray.mk #[(120 : UInt8), (121 : UInt8)]),
 ())]).fst)
 (2 : Int)).snd.fst ==
 (7 : Int)) =
 false →
 false = true)) ∧
 (((inW
 (weaveI
 (newI (4 : Int)
 [((7 : Int), (1 : Int), (0 : Int), (0 : Int),
 (ByteArray.mk #[(120 : UInt8), (121 : UInt8)]), ())]).fst)
 (2 : Int)).fst ==
 (1 : Int)) =
 false →
 false = true)) ∧
 (((outW
 (weaveI
 (newI (4 : Int)
 [((7 : Int), (1 : Int), (0 : Int), (0 : Int),
 (ByteArray.mk #[(120 : UInt8), (121 : UInt8)]), ())]).fst)
 (1 : Int) (1 : Int)).fst ==
 (3 : Int)) =
 false →
 false = true)) ∧
 (((outW
 (weaveI
 (newI (4 : Int)
 [((7 : Int), (1 : Int), (0 : Int), (0 : Int),
 (ByteArray.mk #[(120 : UInt8), (121 : UInt8)]), ())]).fst)
 (1 : Int) (0 : Int)).fst ==
 (1 : Int)) =
 false →
 false = true)) ∧
 (((inW
 (weaveI
 (newI (4 : Int)
 [((7 : Int), (1 : Int), (0 : Int), (0 : Int),
 (ByteArray.mk #[(120 : UInt8), (121 : UInt8)]), ())]).fst)
 (2 : Int)).snd.snd.fst ==
 (0 : Int)) =
 false →
 false = true)) ∧
 (((outW
 (weaveI
 (newI (4 : Int)
 [((7 : Int), (1 : Int), (0 : Int), (0 : Int),
 (ByteArray.mk #[(120 : UInt8), (121 : UInt8)]), ())]).fst)
 (1 : Int) (1 : Int)).snd.fst ==
 (0 : Int)) =
 false →
 false = true)) ∧
 (((outW
 (weaveI
 (newI (4 : Int)
 [((7 : Int), (1 : Int), (0 : Int), (0 : Int),
 (ByteArray.mk #[(120 : UInt8), (121 : UInt8)]), ())]).fst)
 (1 : Int) (0 : Int)).snd.fst ==
 (0 : Int)) =
 false →
 false = true)) ∧
 (((newI (4 : Int)
 [((7 : Int), (1 : Int), (0 : Int), (0 : Int), (ByteArray.mk #[(120 : UInt8), (121 : UInt8)]),
 ())]).snd.fst ==
 (0 : Int)) =
 false →
 false = true)
theorem vcEq6 : fnVC E6 Tryz.f6 (bodyOf Tryz.f6) cFour = vc6 := by kernel_rfl
def hs9 : List (Nat × Nat × Hint) := []
def nm9 : List Nat := [3000000023]
noncomputable def E9 : Env := env tab [(31, cLen), (15, cAll), (30, cRow), (29, cTreeNew)] [] gl hs9 nm9
def vc9 : Prop :=
 ∀ (x : Option (Int × List Inl × Unit) × Unit),
 List.length (allI x.fst) ≤ (10000 : Nat) ∧ shortL (allI x.fst) →
 True ∧
 List.length (allI x.fst) ≤ (10000 : Nat) ∧
 (List.length (allI x.fst) ≤ (10000 : Nat) ∧ shortL (allI x.fst)) ∧
 List.length (rowF (lenI x.fst) (0 : Int) (allI x.fst)) ≤ (100000 : Nat) ∧
 some ((newT (rowF (lenI x.fst) (0 : Int) (allI x.fst))).fst, ()) = weaveI x.fst
theorem vcEq9 : fnVC E9 Tryz.f9 (bodyOf Tryz.f9) cWeave = vc9 := by kernel_rfl
def hs14 : List (Nat × Nat × Hint) := []
def nm14 : List Nat := [3000000023]
noncomputable def E14 : Env := env tab [(33, cSizes), (40, cPieces), (41, cSpots), (43, cRefsP), (44, cRefPieces), (42, cSameP), (20, cHeightW), (45, cHigh)] [] gl hs14 nm14
def vc14 : Prop :=
 ∀
 (x :
 Option (Option (Nd × Unit) × Unit) ×
 (Int × List Inl × Int × Unit) × Unit),
 smallW x.snd.fst ∧
 (topT (treeOf x.fst) = (NT.nil : Nd) ∨ ∃ (h : Nat), h ≤ (3 : Nat) ∧ Wf h true (topT (treeOf x.fst))) ∧
 List.length (items (topT (treeOf x.fst))) ≤ (10000 : Nat) →
 True ∧
 ((topT (treeOf x.fst) = (NT.nil : Nd) ∨ ∃ (h : Nat), h ≤ (3 : Nat) ∧ Wf h true (topT (treeOf x.fst))) ∧
 List.length (items (topT (treeOf x.fst))) ≤ (10000 : Nat)) ∧
 (Option.isSome x.fst = true →
 (((sumOf (topT (treeOf x.fst))).snd.fst.fst == x.snd.fst.fst) = true →
 smallW x.snd.fst ∧
 (((sumOf (topT (treeOf x.fst))).snd.fst.snd.fst == (↑(List.length (spots x.snd.fst)) : Int)) = true →
 List.length (piecesI (treeOf x.fst)) ≤ (1000000 : Nat) ∧
 smallW x.snd.fst ∧
 (List.length (piecesI (treeOf x.fst)) ≤ maxLen ∧ List.length (refPieces x.snd.fst) ≤ maxLen) ∧
 (sameP (piecesI (treeOf x.fst)) (refPieces x.snd.fst) = true →
 True ∧
 (heightOf (topT (treeOf x.fst)) ≤ (1000 : Int) ∧
 (0 : Int) ≤ (↑(List.length (piecesI (treeOf x.fst))) : Int) ∧
 (↑(List.length (piecesI (treeOf x.fst))) : Int) ≤ (1000000 : Int)) ∧
 highB (heightOf (topT (treeOf x.fst)))
 (↑(List.length (piecesI (treeOf x.fst))) : Int) =
 isW x.fst x.snd.fst) ∧
 (sameP (piecesI (treeOf x.fst)) (refPieces x.snd.fst) = false →
 false = isW x.fst x.snd.fst)) ∧
 (((sumOf (topT (treeOf x.fst))).snd.fst.snd.fst == (↑(List.length (spots x.snd.fst)) : Int)) =
 false →
 false = isW x.fst x.snd.fst)) ∧
 (((sumOf (topT (treeOf x.fst))).snd.fst.fst == x.snd.fst.fst) = false → false = isW x.fst x.snd.fst)) ∧
 (Option.isSome x.fst = false → false = isW x.fst x.snd.fst)
theorem vcEq14 : fnVC E14 Tryz.f14 (bodyOf Tryz.f14) cIs = vc14 := by kernel_rfl
def hs18 : List (Nat × Nat × Hint) := []
def nm18 : List Nat := [3000000023]
noncomputable def E18 : Env := env tab [(35, cTreeOf), (36, cFind)] [] gl hs18 nm18
def vc18 : Prop :=
 ∀ (x : Option (Option (Nd × Unit) × Unit) × Int × Int × Unit),
 WfN (topT (treeOf x.fst)) →
 True ∧
 WfN (topT (treeOf x.fst)) ∧
 (((findT (treeOf x.fst) (0 : Int) x.snd.fst x.snd.snd.fst).snd.fst != (0 : Int)) = true →
 ((0 : Int), (findT (treeOf x.fst) (0 : Int) x.snd.fst x.snd.snd.fst).snd) =
 outW x.fst x.snd.fst x.snd.snd.fst) ∧
 (((findT (treeOf x.fst) (0 : Int) x.snd.fst x.snd.snd.fst).snd.fst != (0 : Int)) = false →
 ((0 : Int) ≤ (1 : Int) ∧ (1 : Int) < (↑(3 : Nat) : Int)) ∧
 ((0 : Int) ≤ (0 : Int) ∧ (0 : Int) < (↑(3 : Nat) : Int)) ∧
 (IntKind.wrap IntKind.i64
 (IntKind.wrap IntKind.i64
 ((findT (treeOf x.fst) (0 : Int) x.snd.fst x.snd.snd.fst).fst.snd.fst.snd.fst.snd.fst +
 x.snd.fst) -
 (findT (treeOf x.fst) (0 : Int) x.snd.fst x.snd.snd.fst).fst.snd.fst.snd.fst.fst),
 (0 : Int), ()) =
 outW x.fst x.snd.fst x.snd.snd.fst)
theorem vcEq18 : fnVC E18 Tryz.f18 (bodyOf Tryz.f18) cOut = vc18 := by kernel_rfl
def hs19 : List (Nat × Nat × Hint) := []
def nm19 : List Nat := [3000000023]
noncomputable def E19 : Env := env tab [(35, cTreeOf), (36, cFind), (37, cAt)] [] gl hs19 nm19
def vc19 : Prop :=
 ∀ (x : Option (Option (Nd × Unit) × Unit) × Int × Unit),
 okTre (treeOf x.fst) →
 True ∧
 WfN (topT (treeOf x.fst)) ∧
 (((findT (treeOf x.fst) (1 : Int) x.snd.fst (1 : Int)).snd.fst != (0 : Int)) = true →
 ((0 : Int), (0 : Int), (findT (treeOf x.fst) (1 : Int) x.snd.fst (1 : Int)).snd) = inW x.fst x.snd.fst) ∧
 (((findT (treeOf x.fst) (1 : Int) x.snd.fst (1 : Int)).snd.fst != (0 : Int)) = false →
 True ∧
 okTre (treeOf x.fst) ∧
 ((0 : Int) ≤ (1 : Int) ∧ (1 : Int) < (↑(3 : Nat) : Int)) ∧
 (((atT (treeOf x.fst) (findT (treeOf x.fst) (1 : Int) x.snd.fst (1 : Int)).fst.fst).fst.snd.fst ==
 (0 : Int)) =
 true →
 ((0 : Int) ≤ (0 : Int) ∧ (0 : Int) < (↑(3 : Nat) : Int)) ∧
 (IntKind.wrap IntKind.i64
 ((findT (treeOf x.fst) (1 : Int) x.snd.fst (1 : Int)).fst.snd.fst.snd.fst.fst +
 IntKind.wrap IntKind.i64
 (x.snd.fst -
 (findT (treeOf x.fst) (1 : Int) x.snd.fst (1 : Int)).fst.snd.fst.snd.fst.snd.fst)),
 (0 : Int), (0 : Int), ()) =
 inW x.fst x.snd.fst) ∧
 (((atT (treeOf x.fst) (findT (treeOf x.fst) (1 : Int) x.snd.fst (1 : Int)).fst.fst).fst.snd.fst ==
 (0 : Int)) =
 false →
 ((IntKind.wrap IntKind.i64
 (x.snd.fst -
 (findT (treeOf x.fst) (1 : Int) x.snd.fst (1 : Int)).fst.snd.fst.snd.fst.snd.fst) ==
 (0 : Int)) =
 true →
 ((0 : Int) ≤ (0 : Int) ∧ (0 : Int) < (↑(3 : Nat) : Int)) ∧
 ((findT (treeOf x.fst) (1 : Int) x.snd.fst (1 : Int)).fst.snd.fst.snd.fst.fst, (0 : Int),
 (0 : Int), ()) =
 inW x.fst x.snd.fst) ∧
 ((IntKind.wrap IntKind.i64
 (x.snd.fst -
 (findT (treeOf x.fst) (1 : Int) x.snd.fst (1 : Int)).fst.snd.fst.snd.fst.snd.fst) ==
 (0 : Int)) =
 false →
 ((0 : Int) ≤ (0 : Int) ∧ (0 : Int) < (↑(3 : Nat) : Int)) ∧
 ((findT (treeOf x.fst) (1 : Int) x.snd.fst (1 : Int)).fst.snd.fst.snd.fst.fst,
 (atT (treeOf x.fst)
 (findT (treeOf x.fst) (1 : Int) x.snd.fst (1 : Int)).fst.fst).fst.snd.fst,
 (0 : Int), ()) =
 inW x.fst x.snd.fst)))
theorem vcEq19 : fnVC E19 Tryz.f19 (bodyOf Tryz.f19) cIn = vc19 := by kernel_rfl
def hs20 : List (Nat × Nat × Hint) := []
def nm20 : List Nat := [3000000023]
noncomputable def E20 : Env := env tab [(35, cTreeOf), (52, cHeightT)] [] gl hs20 nm20
def vc20 : Prop :=
 ∀ (x : Option (Option (Nd × Unit) × Unit) × Unit),
 True → True ∧ True ∧ heightOf (topT (treeOf x.fst)) = heightOf (topT (treeOf x.fst))
theorem vcEq20 : fnVC E20 Tryz.f20 (bodyOf Tryz.f20) cHeightW = vc20 := by kernel_rfl
def hs30 : List (Nat × Nat × Hint) := [(0, 3, ⟨[.slot 0 t3, .rowS 7 900000007 t99 99, .slot 12 t3], [1, 10, 11], [], []⟩)]
def nm30 : List Nat := [3000000023]
noncomputable def E30 : Env := env tab [(67, cPlain), (68, cVirtual)] [] gl hs30 nm30
def vc30 : Prop :=
 ∀ (x : Int × Int × List Inl × Unit),
 let y := x.snd.snd.fst;
 let y_1 := x.snd.fst;
 let y_2 := x.fst;
 let y_3 := (↑(List.length y) : Int);
 let y_4 := rowF y_1 y_2 y;
 List.length y ≤ (10000 : Nat) ∧ shortL y →
 (((0 : Int) = (0 : Int) ∧ True ∧ y_2 = y_2 ∧ y_1 = y_1 ∧ y = y ∧ y_3 = y_3) ∧ True ∧ True) ∧
 ∃ (Z : Int × List Itm × Int × Unit → Prop),
 ∃ (μ : Int × List Itm × Int × Unit → Nat),
 Z (y_2, [], (0 : Int), ()) ∧
 ∀ (a : Int),
 let y_5 := [plainI (IntKind.wrap IntKind.i64 (y_1 - a))];
 ∀ (a_1 : List Itm) (a_2 : Int),
 let y_6 := (List.getD y (Int.toNat a_2) (Ty.dflt t48)).snd.fst;
 let y_7 := (a, a_1, a_2, ());
 let y_8 :=  (a, a_1 ++ [virtualI (List.getD y (Int.toNat a_2) (Ty.dflt t48))],  IntKind.wrap IntKind.i64 (a_2 + (1 : Int)), ());
 let y_9 := [virtualI (List.getD y (Int.toNat a_2) (Ty.dflt t48))];
 let y_10 := IntKind.wrap IntKind.i64 (a_2 + (1 : Int));
 let y_11 := a_1 ++ [plainI (IntKind.wrap IntKind.i64 (y_6 - a))] ++ y_9;
 let y_12 := List.length (a_1 ++ [plainI (IntKind.wrap IntKind.i64 (y_6 - a))]) + List.length y_9;
 let y_13 := List.length a_1 + List.length [plainI (IntKind.wrap IntKind.i64 (y_6 - a))];
 let y_14 := (y_6, y_11, y_10, ());
 Z y_7 →
 (decide (a_2 < y_3) = true →
 ((0 : Int) ≤ a_2 ∧ a_2 < y_3) ∧
 (decide (y_6 > a) = true →
 True ∧
 y_13 * (64 : Nat) ≤ (140737488355328 : Nat) ∧
 y_13 ≤ maxLen ∧
 ByteArray.size (txt (List.getD y (Int.toNat a_2) (Ty.dflt t48))) ≤ maxLen ∧
 y_12 * (64 : Nat) ≤ (140737488355328 : Nat) ∧
 y_12 ≤ maxLen ∧
 ((y_10 = y_10 ∧ True ∧ y_6 = y_6 ∧ y_1 = y_1 ∧ y = y ∧ y_3 = y_3) ∧
 y_11 = y_11 ∧ True) ∧
 Z y_14 ∧ μ y_14 < μ y_7) ∧
 (decide (y_6 > a) = false →
 ByteArray.size (txt (List.getD y (Int.toNat a_2) (Ty.dflt t48))) ≤ maxLen ∧
 (List.length a_1 + List.length y_9) * (64 : Nat) ≤ (140737488355328 : Nat) ∧
 List.length a_1 + List.length y_9 ≤ maxLen ∧
 ((y_10 = y_10 ∧ True ∧ a = a ∧ y_1 = y_1 ∧ y = y ∧ y_3 = y_3) ∧
 a_1 ++ y_9 = a_1 ++ y_9 ∧ True) ∧
 Z y_8 ∧ μ y_8 < μ y_7)) ∧
 (decide (a_2 < y_3) = false →
 (decide (y_1 > a) = true →
 True ∧
 (List.length a_1 + List.length y_5) * (64 : Nat) ≤ (140737488355328 : Nat) ∧
 List.length a_1 + List.length y_5 ≤ maxLen ∧ a_1 ++ y_5 = y_4) ∧
 (decide (y_1 > a) = false → a_1 = y_4))
theorem vcEq30 : fnVC E30 Tryz.f30 (bodyOf Tryz.f30) cRow = vc30 := by kernel_rfl
def hs33 : List (Nat × Nat × Hint) := []
def nm33 : List Nat := [3000000023]
noncomputable def E33 : Env := env tab [(35, cTreeOf), (69, cSum)] [] gl hs33 nm33
def vc33 : Prop :=
 ∀ (x : Option (Option (Nd × Unit) × Unit) × Unit),
 True →
 True ∧
 True ∧
 ((0 : Int) ≤ (0 : Int) ∧ (0 : Int) < (↑(3 : Nat) : Int)) ∧
 ((0 : Int) ≤ (1 : Int) ∧ (1 : Int) < (↑(3 : Nat) : Int)) ∧
 ((sumOf (topT (treeOf x.fst))).snd.fst.fst, (sumOf (topT (treeOf x.fst))).snd.fst.snd.fst, ()) =
 ((sumOf (topT (treeOf x.fst))).snd.fst.fst, (sumOf (topT (treeOf x.fst))).snd.fst.snd.fst, ())
theorem vcEq33 : fnVC E33 Tryz.f33 (bodyOf Tryz.f33) cSizes = vc33 := by kernel_rfl
def hs34 : List (Nat × Nat × Hint) := []
def nm34 : List Nat := [3000000023]
noncomputable def E34 : Env := env tab [] [] gl hs34 nm34
def vc34 : Prop :=
 ∀ (x : (Int × Int × Unit) × Int × Unit),
 True →
 (decide (x.fst.fst ≥ (0 : Int)) = true →
 (decide (x.fst.snd.fst ≥ x.fst.fst) = true → decide (x.fst.snd.fst ≤ x.snd.fst) = fitsW x.fst x.snd.fst) ∧
 (decide (x.fst.snd.fst ≥ x.fst.fst) = false → false = fitsW x.fst x.snd.fst)) ∧
 (decide (x.fst.fst ≥ (0 : Int)) = false → false = fitsW x.fst x.snd.fst)
theorem vcEq34 : fnVC E34 Tryz.f34 (bodyOf Tryz.f34) cFits = vc34 := by kernel_rfl
def hs35 : List (Nat × Nat × Hint) := []
def nm35 : List Nat := [3000000023]
noncomputable def E35 : Env := env tab [] [] gl hs35 nm35
def vc35 : Prop :=
 ∀ (x : Option (Option (Nd × Unit) × Unit) × Unit),
 True →
 (Option.isNone x.fst = true → none = treeOf x.fst) ∧
 (Option.isNone x.fst = false →
 Option.isSome x.fst = true ∧ (List.getD (optL x.fst) (0 : Nat) (Ty.dflt t83)).fst = treeOf x.fst)
theorem vcEq35 : fnVC E35 Tryz.f35 (bodyOf Tryz.f35) cTreeOf = vc35 := by kernel_rfl
def hs36 : List (Nat × Nat × Hint) := [(0, 7, ⟨[.slot 13 t131, .cell 12 1 t3, .cell 12 2 t3, .cell 12 3 t3, .cell 12 4 t3, .cell 12 5 t3, .cell 12 6 t3, .cell 12 7 t3], [1, 8, 11, 12], [8, 12, 6, 7], []⟩),
  (0, 13, ⟨[.slot 13 t131, .slot 74 t3, .cell 12 1 t3, .cell 12 2 t3, .cell 12 3 t3, .cell 12 4 t3, .cell 12 5 t3, .cell 12 6 t3], [1, 8, 11, 12, 72, 73], [8, 12, 6, 7], []⟩),
  (0, 23, ⟨[.slot 103 t3, .cell 12 1 t3, .cell 12 2 t3, .cell 12 3 t3, .cell 12 4 t3, .cell 12 5 t3, .cell 12 6 t3], [1, 8, 11, 12, 101, 102], [8, 12, 6, 7], []⟩)]
def nm36 : List Nat := [3000000023]
noncomputable def E36 : Env := env tab [(69, cSum), (70, cSizeD), (72, cTop), (74, cSumOf), (73, cAddS), (75, cOfI)] [(71, Tryz.f71)] gl hs36 nm36
def vc36 : Prop :=
 ∀ (x : Option (Nd × Unit) × Int × Int × Int × Unit),
 let y := x.snd.snd;
 let y_1 := x.snd.fst;
 let y_2 := (topT x.fst, (0 : Int), (0 : Int), (0 : Int), (0 : Int), (0 : Int), (0 : Int), (0 : Int), ());
 let y_3 := x.fst;
 let y_4 := findT y_3 y_1 y.fst y.snd.fst;
 let y_5 := y.snd.fst;
 let y := y.fst;
 let y_6 := decide (y > sizeD (sumOf (topT y_3)) y_1);
 let y_7 := y_5 == (0 : Int);
 WfN (topT y_3) →
 True ∧
 (decide (y_1 < (0 : Int)) = true →
 (((0 : Int), ((0 : Int), ((0 : Int), (0 : Int), (0 : Int), ()), (0 : Int), (0 : Int), ()), (0 : Int), ()),
 (1 : Int), ()) =
 y_4) ∧
 (decide (y_1 < (0 : Int)) = false →
 (decide (y_1 > (3 : Int)) = true →
 (((0 : Int), ((0 : Int), ((0 : Int), (0 : Int), (0 : Int), ()), (0 : Int), (0 : Int), ()), (0 : Int), ()),
 (1 : Int), ()) =
 y_4) ∧
 (decide (y_1 > (3 : Int)) = false →
 (decide (y < (0 : Int)) = true →
 (((0 : Int), ((0 : Int), ((0 : Int), (0 : Int), (0 : Int), ()), (0 : Int), (0 : Int), ()), (0 : Int),
 ()),
 (1 : Int), ()) =
 y_4) ∧
 (decide (y < (0 : Int)) = false →
 ((0 : Int) ≤ y_1 ∧ y_1 ≤ (3 : Int)) ∧
 (y_6 = true →
 (((0 : Int), ((0 : Int), ((0 : Int), (0 : Int), (0 : Int), ()), (0 : Int), (0 : Int), ()),
 (0 : Int), ()),
 (1 : Int), ()) =
 y_4) ∧
 (y_6 = false →
 ((y_5 != (0 : Int)) = true →
 ((y_5 != (1 : Int)) = true →
 (((0 : Int),
 ((0 : Int), ((0 : Int), (0 : Int), (0 : Int), ()), (0 : Int), (0 : Int), ()),
 (0 : Int), ()),
 (1 : Int), ()) =
 y_4) ∧
 ((y_5 != (1 : Int)) = false →
 True ∧
 ((topT y_3 = topT y_3 ∧ y_1 = y_1 ∧ True ∧ (True ∧ True) ∧ True) ∧
 ((0 : Int) = (0 : Int) ∧
 (0 : Int) = (0 : Int) ∧
 (0 : Int) = (0 : Int) ∧
 (0 : Int) = (0 : Int) ∧
 (0 : Int) = (0 : Int) ∧
 (0 : Int) = (0 : Int) ∧
 (0 : Int) = (0 : Int) ∧ (0 : Int) = (0 : Int)) ∧
 ((0 : Int) = (0 : Int) ∧
 (0 : Int) = (0 : Int) ∧
 (0 : Int) = (0 : Int) ∧
 (0 : Int) = (0 : Int) ∧
 (0 : Int) = (0 : Int) ∧
 (0 : Int) = (0 : Int) ∧
 (0 : Int) = (0 : Int) ∧ (0 : Int) = (0 : Int)) ∧
 y = y ∧ y_5 = y_5) ∧
 ∃ (Z :
 Nd ×
 Int × Int × Int × Int × Int × Int × Int × Unit →
 Prop),
 ∃ (μ :
 Nd ×
 Int × Int × Int × Int × Int × Int × Int × Unit →
 Nat),
 Z y_2 ∧
 ∀ (a : Nd),
 let y_8 :=  (List.getD (optL (NT.asInner a)) (0 : Nat)  (([], (0, zS, ())) : List Nd × Nx)).fst;
 let y_9 := (List.getD (optL (NT.asLeaf a)) (0 : Nat) (([], zS, ()) : Lf)).fst;
 let y_10 := Option.isSome (NT.asLeaf a);
 let y_11 := !Option.isSome (NT.asInner a);
 let y_12 := (↑(List.length y_9) : Int);
 let y_13 := (↑(List.length y_8) : Int);
 ∀ (a_1 a_2 a_3 a_4 : Int),
 let y_14 := (a_2, a_3, a_4, ());
 ∀ (a_5 a_6 : Int),
 let y_15 := (a_1, a_2, a_3, a_4, a_5, a_6, ());
 let y_16 := (a_1, y_14, a_5, a_6, ());
 let y_17 := ((0 : Int), y_15);
 ∀ (a_7 : Int),
 let y_18 := (a, a_1, a_2, a_3, a_4, a_5, a_6, a_7, ());
 let y_19 := IntKind.wrap IntKind.i64 (a_7 + (1 : Int));
 let y_20 := (y_19, ());
 Z y_18 →
 ((!NT.isNil a) = true →
 (y_11 = true →
 (y_10 = true →
 y_10 = true ∧
 (((0 : Int) = (0 : Int) ∧
 y_1 = y_1 ∧
 True ∧
 (True ∧ True) ∧
 True ∧ y_9 = y_9 ∧ y_12 = y_12) ∧
 ((0 : Int) = (0 : Int) ∧
 (0 : Int) = (0 : Int) ∧
 (0 : Int) = (0 : Int) ∧
 (0 : Int) = (0 : Int) ∧
 (0 : Int) = (0 : Int) ∧
 (0 : Int) = (0 : Int) ∧
 (0 : Int) = (0 : Int) ∧
 (0 : Int) = (0 : Int)) ∧
 ((0 : Int) = (0 : Int) ∧
 a_1 = a_1 ∧
 a_2 = a_2 ∧
 a_3 = a_3 ∧
 a_4 = a_4 ∧
 a_5 = a_5 ∧
 a_6 = a_6 ∧ y_19 = y_19) ∧
 y = y ∧ y_5 = y_5) ∧
 ∃ (Z :
 Int × Int × Int × Int × Int × Int × Int × Unit →
 Prop),
 ∃ (μ :
 Int × Int × Int × Int × Int × Int × Int × Unit →
 Nat),
 Z y_17 ∧
 ∀ (a : Int),
 let y_21 :=  ofI  (List.getD y_9 (Int.toNat a)  (Ty.dflt t99));
 let y_22 :=  IntKind.wrap IntKind.i64 (a + (1 : Int));
 ∀ (a_10 a_11 a_12 a_13 : Int),
 let y_23 := (a_11, a_12, a_13, ());
 ∀ (a_14 a_15 : Int),
 let y_24 :=  (y_22,  (addS (a_10, y_23, a_14, a_15, ())  y_21).fst,  (addS (a_10, y_23, a_14, a_15, ())  y_21).snd.fst.fst,  (addS (a_10, y_23, a_14, a_15, ())  y_21).snd.fst.snd.fst,  (addS (a_10, y_23, a_14, a_15, ())  y_21).snd.fst.snd.snd.fst,  (addS (a_10, y_23, a_14, a_15, ())  y_21).snd.snd);
 let y_25 :=  (a_10, y_23, a_14, a_15, ());
 let y_26 :=  (a, a_10, a_11, a_12, a_13, a_14,  a_15, ());
 let y_27 := (addS y_25 y_21).snd;
 let y_28 :=  ((a_10, y_25, y_19, ()), (0 : Int),  ());
 let y_29 := (addS y_25 y_21).fst;
 let y_30 := y_27.fst.snd;
 let y_31 := y_27.snd;
 let y_32 := y_27.fst.fst;
 let y_33 := y_31.snd.fst;
 let y_34 := y_31.fst;
 let y_35 := y_30.snd.fst;
 let y_36 := y_30.fst;
 Z y_26 →
 (decide (a < y_12) = true →
 ((0 : Int) ≤ a ∧ a < y_12) ∧
 True ∧
 True ∧
 ((0 : Int) ≤ y_1 ∧
 y_1 ≤ (3 : Int)) ∧
 (decide
 (sizeD
 (addS y_25
 y_21)
 y_1 >
 y) =
 true →
 y_28 = y_4) ∧
 (decide
 (sizeD
 (addS y_25
 y_21)
 y_1 >
 y) =
 false →
 (y_7 = true →
 ((sizeD
 (addS
 y_25
 y_21)
 y_1 ==
 y) =
 true →
 y_28 = y_4) ∧
 ((sizeD
 (addS
 y_25
 y_21)
 y_1 ==
 y) =
 false →
 ((y_22 =
 y_22 ∧
 y_1 =
 y_1 ∧
 True ∧
 (True ∧
 True) ∧
 True ∧
 y_9 =
 y_9 ∧
 y_12 =
 y_12) ∧
 ((0 :
 Int) =
 (0 :
 Int) ∧
 (0 :
 Int) =
 (0 :
 Int) ∧
 (0 :
 Int) =
 (0 :
 Int) ∧
 (0 :
 Int) =
 (0 :
 Int) ∧
 (0 :
 Int) =
 (0 :
 Int) ∧
 (0 :
 Int) =
 (0 :
 Int) ∧
 (0 :
 Int) =
 (0 :
 Int) ∧
 (0 :
 Int) =
 (0 :
 Int)) ∧
 ((0 :
 Int) =
 (0 :
 Int) ∧
 y_29 =
 y_29 ∧
 y_32 =
 y_32 ∧
 y_36 =
 y_36 ∧
 y_35 =
 y_35 ∧
 y_31.fst =
 y_34 ∧
 y_31.snd.fst =
 y_33 ∧
 y_19 =
 y_19) ∧
 y =
 y ∧
 y_5 =
 y_5) ∧
 Z y_24 ∧
 μ y_24 <
 μ
 y_26)) ∧
 (y_7 = false →
 ((y_22 = y_22 ∧
 y_1 = y_1 ∧
 True ∧
 (True ∧
 True) ∧
 True ∧
 y_9 =
 y_9 ∧
 y_12 =
 y_12) ∧
 ((0 : Int) =
 (0 :
 Int) ∧
 (0 :
 Int) =
 (0 :
 Int) ∧
 (0 :
 Int) =
 (0 :
 Int) ∧
 (0 :
 Int) =
 (0 :
 Int) ∧
 (0 :
 Int) =
 (0 :
 Int) ∧
 (0 :
 Int) =
 (0 :
 Int) ∧
 (0 :
 Int) =
 (0 :
 Int) ∧
 (0 :
 Int) =
 (0 :
 Int)) ∧
 ((0 : Int) =
 (0 :
 Int) ∧
 y_29 =
 y_29 ∧
 y_32 =
 y_32 ∧
 y_36 =
 y_36 ∧
 y_35 =
 y_35 ∧
 y_31.fst =
 y_34 ∧
 y_31.snd.fst =
 y_33 ∧
 y_19 =
 y_19) ∧
 y = y ∧
 y_5 =
 y_5) ∧
 Z y_24 ∧
 μ y_24 <
 μ y_26))) ∧
 (decide (a < y_12) = false →
 y_28 = y_4)) ∧
 (y_10 = false →
 ((a_1, y_16, y_19, ()), (0 : Int), ()) = y_4)) ∧
 (y_11 = false →
 Option.isSome (NT.asInner a) = true ∧
 (((0 : Int) = (0 : Int) ∧
 (NT.nil : Nd) = (NT.nil : Nd) ∧
 y_1 = y_1 ∧
 True ∧
 (True ∧ True) ∧
 True ∧ y_8 = y_8 ∧ y_13 = y_13) ∧
 ((0 : Int) = (0 : Int) ∧
 (0 : Int) = (0 : Int) ∧
 (0 : Int) = (0 : Int) ∧
 (0 : Int) = (0 : Int) ∧
 (0 : Int) = (0 : Int) ∧
 (0 : Int) = (0 : Int) ∧
 (0 : Int) = (0 : Int) ∧
 (0 : Int) = (0 : Int)) ∧
 ((0 : Int) = (0 : Int) ∧
 a_1 = a_1 ∧
 a_2 = a_2 ∧
 a_3 = a_3 ∧
 a_4 = a_4 ∧
 a_5 = a_5 ∧ a_6 = a_6 ∧ y_19 = y_19) ∧
 y = y ∧ y_5 = y_5) ∧
 ∃ (Z_1 :
 Nd ×
 Int × Int × Int × Int × Int × Int × Int × Unit →
 Prop),
 ∃ (μ_1 :
 Nd ×
 Int × Int × Int × Int × Int × Int × Int × Unit →
 Nat),
 Z_1 (NT.nil, (0 : Int), y_15) ∧
 ∀
 (a :
 Nd)
 (a_11 : Int),
 let y_21 :=  List.getD y_8 (Int.toNat a_11)  (NT.nil : Nd);
 let y_22 :=  IntKind.wrap IntKind.i64 (a_11 + (1 : Int));
 ∀ (a_12 a_13 a_14 a_15 : Int),
 let y_23 := (a_13, a_14, a_15, ());
 ∀ (a_16 a_17 : Int),
 let y_24 :=  (a, y_22,  (addS (a_12, y_23, a_16, a_17, ())  (sumOf y_21)).fst,  (addS (a_12, y_23, a_16, a_17, ())  (sumOf y_21)).snd.fst.fst,  (addS (a_12, y_23, a_16, a_17, ())  (sumOf y_21)).snd.fst.snd.fst,  (addS (a_12, y_23, a_16, a_17, ())  (sumOf  y_21)).snd.fst.snd.snd.fst,  (addS (a_12, y_23, a_16, a_17, ())  (sumOf y_21)).snd.snd);
 let y_25 :=  (a_12, a_13, a_14, a_15, a_16, a_17,  y_20);
 let y_26 :=  addS (a_12, y_23, a_16, a_17, ())  (sumOf y_21);
 let y_27 :=  (a, a_11, a_12, a_13, a_14, a_15, a_16,  a_17, ());
 let y_28 := y_26.snd.fst;
 let y_29 := y_26.snd.snd;
 let y_30 := y_26.fst;
 let y_31 := y_29.snd.fst;
 let y_32 := y_29.fst;
 let y_33 := y_28.snd;
 let y_34 := y_28.fst;
 let y_35 := y_33.snd.fst;
 let y_36 := y_33.fst;
 let y_37 := (y_21, y_25);
 let y_38 := (a, y_25);
 Z_1 y_27 →
 (decide (a_11 < y_13) = true →
 ((0 : Int) ≤ a_11 ∧ a_11 < y_13) ∧
 True ∧
 True ∧
 ((0 : Int) ≤ y_1 ∧
 y_1 ≤ (3 : Int)) ∧
 (decide (sizeD y_26 y_1 > y) =
 true →
 ((y_21 = y_21 ∧
 y_1 = y_1 ∧
 True ∧
 (True ∧ True) ∧
 True) ∧
 ((0 : Int) =
 (0 : Int) ∧
 (0 : Int) =
 (0 : Int) ∧
 (0 : Int) =
 (0 : Int) ∧
 (0 : Int) =
 (0 :
 Int) ∧
 (0 : Int) =
 (0 :
 Int) ∧
 (0 :
 Int) =
 (0 :
 Int) ∧
 (0 :
 Int) =
 (0 :
 Int) ∧
 (0 :
 Int) =
 (0 :
 Int)) ∧
 ((0 : Int) =
 (0 : Int) ∧
 a_12 = a_12 ∧
 a_13 = a_13 ∧
 a_14 =
 a_14 ∧
 a_15 =
 a_15 ∧
 a_16 =
 a_16 ∧
 a_17 =
 a_17 ∧
 y_19 =
 y_19) ∧
 y = y ∧
 y_5 = y_5) ∧
 Z y_37 ∧
 μ y_37 < μ y_18) ∧
 (decide
 (sizeD y_26 y_1 > y) =
 false →
 (y_7 = true →
 ((sizeD y_26 y_1 ==
 y) =
 true →
 ((y_21 = y_21 ∧
 y_1 = y_1 ∧
 True ∧
 (True ∧
 True) ∧
 True) ∧
 ((0 : Int) =
 (0 :
 Int) ∧
 (0 :
 Int) =
 (0 :
 Int) ∧
 (0 :
 Int) =
 (0 :
 Int) ∧
 (0 :
 Int) =
 (0 :
 Int) ∧
 (0 :
 Int) =
 (0 :
 Int) ∧
 (0 :
 Int) =
 (0 :
 Int) ∧
 (0 :
 Int) =
 (0 :
 Int) ∧
 (0 :
 Int) =
 (0 :
 Int)) ∧
 ((0 : Int) =
 (0 :
 Int) ∧
 a_12 =
 a_12 ∧
 a_13 =
 a_13 ∧
 a_14 =
 a_14 ∧
 a_15 =
 a_15 ∧
 a_16 =
 a_16 ∧
 a_17 =
 a_17 ∧
 y_19 =
 y_19) ∧
 y = y ∧
 y_5 =
 y_5) ∧
 Z y_37 ∧
 μ y_37 <
 μ y_18) ∧
 ((sizeD y_26 y_1 ==
 y) =
 false →
 ((y_22 = y_22 ∧
 a = a ∧
 y_1 =
 y_1 ∧
 True ∧
 (True ∧
 True) ∧
 True ∧
 y_8 =
 y_8 ∧
 y_13 =
 y_13) ∧
 ((0 : Int) =
 (0 :
 Int) ∧
 (0 :
 Int) =
 (0 :
 Int) ∧
 (0 :
 Int) =
 (0 :
 Int) ∧
 (0 :
 Int) =
 (0 :
 Int) ∧
 (0 :
 Int) =
 (0 :
 Int) ∧
 (0 :
 Int) =
 (0 :
 Int) ∧
 (0 :
 Int) =
 (0 :
 Int) ∧
 (0 :
 Int) =
 (0 :
 Int)) ∧
 ((0 : Int) =
 (0 :
 Int) ∧
 y_30 =
 y_30 ∧
 y_34 =
 y_34 ∧
 y_36 =
 y_36 ∧
 y_35 =
 y_35 ∧
 y_29.fst =
 y_32 ∧
 y_29.snd.fst =
 y_31 ∧
 y_19 =
 y_19) ∧
 y = y ∧
 y_5 =
 y_5) ∧
 Z_1 y_24 ∧
 μ_1 y_24 <
 μ_1 y_27)) ∧
 (y_7 = false →
 ((y_22 = y_22 ∧
 a = a ∧
 y_1 = y_1 ∧
 True ∧
 (True ∧
 True) ∧
 True ∧
 y_8 =
 y_8 ∧
 y_13 =
 y_13) ∧
 ((0 : Int) =
 (0 : Int) ∧
 (0 : Int) =
 (0 :
 Int) ∧
 (0 : Int) =
 (0 :
 Int) ∧
 (0 :
 Int) =
 (0 :
 Int) ∧
 (0 :
 Int) =
 (0 :
 Int) ∧
 (0 :
 Int) =
 (0 :
 Int) ∧
 (0 :
 Int) =
 (0 :
 Int) ∧
 (0 :
 Int) =
 (0 :
 Int)) ∧
 ((0 : Int) =
 (0 :
 Int) ∧
 y_30 =
 y_30 ∧
 y_34 =
 y_34 ∧
 y_36 =
 y_36 ∧
 y_35 =
 y_35 ∧
 y_29.fst =
 y_32 ∧
 y_29.snd.fst =
 y_31 ∧
 y_19 =
 y_19) ∧
 y = y ∧
 y_5 = y_5) ∧
 Z_1 y_24 ∧
 μ_1 y_24 <
 μ_1 y_27))) ∧
 (decide (a_11 < y_13) = false →
 ((a = a ∧
 y_1 = y_1 ∧
 True ∧ (True ∧ True) ∧ True) ∧
 ((0 : Int) = (0 : Int) ∧
 (0 : Int) = (0 : Int) ∧
 (0 : Int) = (0 : Int) ∧
 (0 : Int) = (0 : Int) ∧
 (0 : Int) = (0 : Int) ∧
 (0 : Int) =
 (0 : Int) ∧
 (0 : Int) =
 (0 : Int) ∧
 (0 : Int) =
 (0 : Int)) ∧
 ((0 : Int) = (0 : Int) ∧
 a_12 = a_12 ∧
 a_13 = a_13 ∧
 a_14 = a_14 ∧
 a_15 = a_15 ∧
 a_16 = a_16 ∧
 a_17 = a_17 ∧
 y_19 = y_19) ∧
 y = y ∧ y_5 = y_5) ∧
 Z y_38 ∧ μ y_38 < μ y_18))) ∧
 ((!NT.isNil a) = false →
 (y_10 = true →
 y_10 = true ∧
 (((0 : Int) = (0 : Int) ∧
 y_1 = y_1 ∧
 True ∧
 (True ∧ True) ∧
 True ∧ y_9 = y_9 ∧ y_12 = y_12) ∧
 ((0 : Int) = (0 : Int) ∧
 (0 : Int) = (0 : Int) ∧
 (0 : Int) = (0 : Int) ∧
 (0 : Int) = (0 : Int) ∧
 (0 : Int) = (0 : Int) ∧
 (0 : Int) = (0 : Int) ∧
 (0 : Int) = (0 : Int) ∧
 (0 : Int) = (0 : Int)) ∧
 ((0 : Int) = (0 : Int) ∧
 a_1 = a_1 ∧
 a_2 = a_2 ∧
 a_3 = a_3 ∧
 a_4 = a_4 ∧
 a_5 = a_5 ∧ a_6 = a_6 ∧ a_7 = a_7) ∧
 y = y ∧ y_5 = y_5) ∧
 ∃ (Z :
 Int × Int × Int × Int × Int × Int × Int × Unit →
 Prop),
 ∃ (μ :
 Int × Int × Int × Int × Int × Int × Int × Unit →
 Nat),
 Z y_17 ∧
 ∀ (a : Int),
 let y_21 :=  ofI  (List.getD y_9 (Int.toNat a) (Ty.dflt t99));
 let y_22 :=  IntKind.wrap IntKind.i64 (a + (1 : Int));
 ∀ (a_9 a_10 a_11 a_12 : Int),
 let y_23 := (a_10, a_11, a_12, ());
 ∀ (a_13 a_14 : Int),
 let y_24 :=  (y_22,  (addS (a_9, y_23, a_13, a_14, ())  y_21).fst,  (addS (a_9, y_23, a_13, a_14, ())  y_21).snd.fst.fst,  (addS (a_9, y_23, a_13, a_14, ())  y_21).snd.fst.snd.fst,  (addS (a_9, y_23, a_13, a_14, ())  y_21).snd.fst.snd.snd.fst,  (addS (a_9, y_23, a_13, a_14, ())  y_21).snd.snd);
 let y_25 := (a_9, y_23, a_13, a_14, ());
 let y_26 :=  (a, a_9, a_10, a_11, a_12, a_13, a_14,  ());
 let y_27 := (addS y_25 y_21).snd;
 let y_28 :=  ((a_9, y_25, a_7, ()), (0 : Int), ());
 let y_29 := (addS y_25 y_21).fst;
 let y_30 := y_27.fst.snd;
 let y_31 := y_27.snd;
 let y_32 := y_27.fst.fst;
 let y_33 := y_31.snd.fst;
 let y_34 := y_31.fst;
 let y_35 := y_30.snd.fst;
 let y_36 := y_30.fst;
 Z y_26 →
 (decide (a < y_12) = true →
 ((0 : Int) ≤ a ∧ a < y_12) ∧
 True ∧
 True ∧
 ((0 : Int) ≤ y_1 ∧
 y_1 ≤ (3 : Int)) ∧
 (decide
 (sizeD
 (addS y_25 y_21)
 y_1 >
 y) =
 true →
 y_28 = y_4) ∧
 (decide
 (sizeD
 (addS y_25 y_21)
 y_1 >
 y) =
 false →
 (y_7 = true →
 ((sizeD
 (addS y_25
 y_21)
 y_1 ==
 y) =
 true →
 y_28 = y_4) ∧
 ((sizeD
 (addS y_25
 y_21)
 y_1 ==
 y) =
 false →
 ((y_22 = y_22 ∧
 y_1 = y_1 ∧
 True ∧
 (True ∧
 True) ∧
 True ∧
 y_9 =
 y_9 ∧
 y_12 =
 y_12) ∧
 ((0 : Int) =
 (0 :
 Int) ∧
 (0 :
 Int) =
 (0 :
 Int) ∧
 (0 :
 Int) =
 (0 :
 Int) ∧
 (0 :
 Int) =
 (0 :
 Int) ∧
 (0 :
 Int) =
 (0 :
 Int) ∧
 (0 :
 Int) =
 (0 :
 Int) ∧
 (0 :
 Int) =
 (0 :
 Int) ∧
 (0 :
 Int) =
 (0 :
 Int)) ∧
 ((0 : Int) =
 (0 :
 Int) ∧
 y_29 =
 y_29 ∧
 y_32 =
 y_32 ∧
 y_36 =
 y_36 ∧
 y_35 =
 y_35 ∧
 y_31.fst =
 y_34 ∧
 y_31.snd.fst =
 y_33 ∧
 a_7 =
 a_7) ∧
 y = y ∧
 y_5 =
 y_5) ∧
 Z y_24 ∧
 μ y_24 <
 μ y_26)) ∧
 (y_7 = false →
 ((y_22 = y_22 ∧
 y_1 = y_1 ∧
 True ∧
 (True ∧
 True) ∧
 True ∧
 y_9 =
 y_9 ∧
 y_12 =
 y_12) ∧
 ((0 : Int) =
 (0 : Int) ∧
 (0 : Int) =
 (0 :
 Int) ∧
 (0 : Int) =
 (0 :
 Int) ∧
 (0 :
 Int) =
 (0 :
 Int) ∧
 (0 :
 Int) =
 (0 :
 Int) ∧
 (0 :
 Int) =
 (0 :
 Int) ∧
 (0 :
 Int) =
 (0 :
 Int) ∧
 (0 :
 Int) =
 (0 :
 Int)) ∧
 ((0 : Int) =
 (0 :
 Int) ∧
 y_29 =
 y_29 ∧
 y_32 =
 y_32 ∧
 y_36 =
 y_36 ∧
 y_35 =
 y_35 ∧
 y_31.fst =
 y_34 ∧
 y_31.snd.fst =
 y_33 ∧
 a_7 =
 a_7) ∧
 y = y ∧
 y_5 = y_5) ∧
 Z y_24 ∧
 μ y_24 <
 μ y_26))) ∧
 (decide (a < y_12) = false →
 y_28 = y_4)) ∧
 (y_10 = false →
 ((a_1, y_16, a_7, ()), (0 : Int), ()) = y_4)))) ∧
 ((y_5 != (0 : Int)) = false →
 True ∧
 ((topT y_3 = topT y_3 ∧ y_1 = y_1 ∧ True ∧ (True ∧ True) ∧ True) ∧
 ((0 : Int) = (0 : Int) ∧
 (0 : Int) = (0 : Int) ∧
 (0 : Int) = (0 : Int) ∧
 (0 : Int) = (0 : Int) ∧
 (0 : Int) = (0 : Int) ∧
 (0 : Int) = (0 : Int) ∧ (0 : Int) = (0 : Int) ∧ (0 : Int) = (0 : Int)) ∧
 ((0 : Int) = (0 : Int) ∧
 (0 : Int) = (0 : Int) ∧
 (0 : Int) = (0 : Int) ∧
 (0 : Int) = (0 : Int) ∧
 (0 : Int) = (0 : Int) ∧
 (0 : Int) = (0 : Int) ∧ (0 : Int) = (0 : Int) ∧ (0 : Int) = (0 : Int)) ∧
 y = y ∧ y_5 = y_5) ∧
 ∃ (Z :
 Nd ×
 Int × Int × Int × Int × Int × Int × Int × Unit →
 Prop),
 ∃ (μ :
 Nd ×
 Int × Int × Int × Int × Int × Int × Int × Unit →
 Nat),
 Z y_2 ∧
 ∀ (a : Nd),
 let y_8 :=  (List.getD (optL (NT.asInner a)) (0 : Nat)  (([], (0, zS, ())) : List Nd × Nx)).fst;
 let y_9 := (List.getD (optL (NT.asLeaf a)) (0 : Nat) (([], zS, ()) : Lf)).fst;
 let y_10 := Option.isSome (NT.asLeaf a);
 let y_11 := !Option.isSome (NT.asInner a);
 let y_12 := (↑(List.length y_9) : Int);
 let y_13 := (↑(List.length y_8) : Int);
 ∀ (a_1 a_2 a_3 a_4 : Int),
 let y_14 := (a_2, a_3, a_4, ());
 ∀ (a_5 a_6 : Int),
 let y_15 := (a_1, a_2, a_3, a_4, a_5, a_6, ());
 let y_16 := (a_1, y_14, a_5, a_6, ());
 let y_17 := ((0 : Int), y_15);
 ∀ (a_7 : Int),
 let y_18 := (a, a_1, a_2, a_3, a_4, a_5, a_6, a_7, ());
 let y_19 := IntKind.wrap IntKind.i64 (a_7 + (1 : Int));
 let y_20 := (y_19, ());
 Z y_18 →
 ((!NT.isNil a) = true →
 (y_11 = true →
 (y_10 = true →
 y_10 = true ∧
 (((0 : Int) = (0 : Int) ∧
 y_1 = y_1 ∧
 True ∧
 (True ∧ True) ∧
 True ∧ y_9 = y_9 ∧ y_12 = y_12) ∧
 ((0 : Int) = (0 : Int) ∧
 (0 : Int) = (0 : Int) ∧
 (0 : Int) = (0 : Int) ∧
 (0 : Int) = (0 : Int) ∧
 (0 : Int) = (0 : Int) ∧
 (0 : Int) = (0 : Int) ∧
 (0 : Int) = (0 : Int) ∧
 (0 : Int) = (0 : Int)) ∧
 ((0 : Int) = (0 : Int) ∧
 a_1 = a_1 ∧
 a_2 = a_2 ∧
 a_3 = a_3 ∧
 a_4 = a_4 ∧
 a_5 = a_5 ∧ a_6 = a_6 ∧ y_19 = y_19) ∧
 y = y ∧ y_5 = y_5) ∧
 ∃ (Z :
 Int × Int × Int × Int × Int × Int × Int × Unit →
 Prop),
 ∃ (μ :
 Int × Int × Int × Int × Int × Int × Int × Unit →
 Nat),
 Z y_17 ∧
 ∀ (a : Int),
 let y_21 :=  ofI  (List.getD y_9 (Int.toNat a) (Ty.dflt t99));
 let y_22 :=  IntKind.wrap IntKind.i64 (a + (1 : Int));
 ∀ (a_10 a_11 a_12 a_13 : Int),
 let y_23 := (a_11, a_12, a_13, ());
 ∀ (a_14 a_15 : Int),
 let y_24 :=  (y_22,  (addS (a_10, y_23, a_14, a_15, ())  y_21).fst,  (addS (a_10, y_23, a_14, a_15, ())  y_21).snd.fst.fst,  (addS (a_10, y_23, a_14, a_15, ())  y_21).snd.fst.snd.fst,  (addS (a_10, y_23, a_14, a_15, ())  y_21).snd.fst.snd.snd.fst,  (addS (a_10, y_23, a_14, a_15, ())  y_21).snd.snd);
 let y_25 := (a_10, y_23, a_14, a_15, ());
 let y_26 :=  (a, a_10, a_11, a_12, a_13, a_14, a_15,  ());
 let y_27 := (addS y_25 y_21).snd;
 let y_28 :=  ((a_10, y_25, y_19, ()), (0 : Int), ());
 let y_29 := (addS y_25 y_21).fst;
 let y_30 := y_27.fst.snd;
 let y_31 := y_27.snd;
 let y_32 := y_27.fst.fst;
 let y_33 := y_31.snd.fst;
 let y_34 := y_31.fst;
 let y_35 := y_30.snd.fst;
 let y_36 := y_30.fst;
 Z y_26 →
 (decide (a < y_12) = true →
 ((0 : Int) ≤ a ∧ a < y_12) ∧
 True ∧
 True ∧
 ((0 : Int) ≤ y_1 ∧
 y_1 ≤ (3 : Int)) ∧
 (decide
 (sizeD
 (addS y_25 y_21)
 y_1 >
 y) =
 true →
 y_28 = y_4) ∧
 (decide
 (sizeD
 (addS y_25 y_21)
 y_1 >
 y) =
 false →
 (y_7 = true →
 ((sizeD
 (addS y_25
 y_21)
 y_1 ==
 y) =
 true →
 y_28 = y_4) ∧
 ((sizeD
 (addS y_25
 y_21)
 y_1 ==
 y) =
 false →
 ((y_22 = y_22 ∧
 y_1 = y_1 ∧
 True ∧
 (True ∧
 True) ∧
 True ∧
 y_9 =
 y_9 ∧
 y_12 =
 y_12) ∧
 ((0 : Int) =
 (0 :
 Int) ∧
 (0 :
 Int) =
 (0 :
 Int) ∧
 (0 :
 Int) =
 (0 :
 Int) ∧
 (0 :
 Int) =
 (0 :
 Int) ∧
 (0 :
 Int) =
 (0 :
 Int) ∧
 (0 :
 Int) =
 (0 :
 Int) ∧
 (0 :
 Int) =
 (0 :
 Int) ∧
 (0 :
 Int) =
 (0 :
 Int)) ∧
 ((0 : Int) =
 (0 :
 Int) ∧
 y_29 =
 y_29 ∧
 y_32 =
 y_32 ∧
 y_36 =
 y_36 ∧
 y_35 =
 y_35 ∧
 y_31.fst =
 y_34 ∧
 y_31.snd.fst =
 y_33 ∧
 y_19 =
 y_19) ∧
 y = y ∧
 y_5 =
 y_5) ∧
 Z y_24 ∧
 μ y_24 <
 μ y_26)) ∧
 (y_7 = false →
 ((y_22 = y_22 ∧
 y_1 = y_1 ∧
 True ∧
 (True ∧
 True) ∧
 True ∧
 y_9 =
 y_9 ∧
 y_12 =
 y_12) ∧
 ((0 : Int) =
 (0 : Int) ∧
 (0 : Int) =
 (0 :
 Int) ∧
 (0 : Int) =
 (0 :
 Int) ∧
 (0 :
 Int) =
 (0 :
 Int) ∧
 (0 :
 Int) =
 (0 :
 Int) ∧
 (0 :
 Int) =
 (0 :
 Int) ∧
 (0 :
 Int) =
 (0 :
 Int) ∧
 (0 :
 Int) =
 (0 :
 Int)) ∧
 ((0 : Int) =
 (0 :
 Int) ∧
 y_29 =
 y_29 ∧
 y_32 =
 y_32 ∧
 y_36 =
 y_36 ∧
 y_35 =
 y_35 ∧
 y_31.fst =
 y_34 ∧
 y_31.snd.fst =
 y_33 ∧
 y_19 =
 y_19) ∧
 y = y ∧
 y_5 = y_5) ∧
 Z y_24 ∧
 μ y_24 <
 μ y_26))) ∧
 (decide (a < y_12) = false →
 y_28 = y_4)) ∧
 (y_10 = false →
 ((a_1, y_16, y_19, ()), (0 : Int), ()) = y_4)) ∧
 (y_11 = false →
 Option.isSome (NT.asInner a) = true ∧
 (((0 : Int) = (0 : Int) ∧
 (NT.nil : Nd) = (NT.nil : Nd) ∧
 y_1 = y_1 ∧
 True ∧
 (True ∧ True) ∧ True ∧ y_8 = y_8 ∧ y_13 = y_13) ∧
 ((0 : Int) = (0 : Int) ∧
 (0 : Int) = (0 : Int) ∧
 (0 : Int) = (0 : Int) ∧
 (0 : Int) = (0 : Int) ∧
 (0 : Int) = (0 : Int) ∧
 (0 : Int) = (0 : Int) ∧
 (0 : Int) = (0 : Int) ∧
 (0 : Int) = (0 : Int)) ∧
 ((0 : Int) = (0 : Int) ∧
 a_1 = a_1 ∧
 a_2 = a_2 ∧
 a_3 = a_3 ∧
 a_4 = a_4 ∧
 a_5 = a_5 ∧ a_6 = a_6 ∧ y_19 = y_19) ∧
 y = y ∧ y_5 = y_5) ∧
 ∃ (Z_1 :
 Nd ×
 Int × Int × Int × Int × Int × Int × Int × Unit →
 Prop),
 ∃ (μ_1 :
 Nd ×
 Int × Int × Int × Int × Int × Int × Int × Unit →
 Nat),
 Z_1 (NT.nil, (0 : Int), y_15) ∧
 ∀
 (a :
 Nd)
 (a_11 : Int),
 let y_21 :=  List.getD y_8 (Int.toNat a_11)  (NT.nil : Nd);
 let y_22 :=  IntKind.wrap IntKind.i64 (a_11 + (1 : Int));
 ∀ (a_12 a_13 a_14 a_15 : Int),
 let y_23 := (a_13, a_14, a_15, ());
 ∀ (a_16 a_17 : Int),
 let y_24 :=  (a, y_22,  (addS (a_12, y_23, a_16, a_17, ())  (sumOf y_21)).fst,  (addS (a_12, y_23, a_16, a_17, ())  (sumOf y_21)).snd.fst.fst,  (addS (a_12, y_23, a_16, a_17, ())  (sumOf y_21)).snd.fst.snd.fst,  (addS (a_12, y_23, a_16, a_17, ())  (sumOf  y_21)).snd.fst.snd.snd.fst,  (addS (a_12, y_23, a_16, a_17, ())  (sumOf y_21)).snd.snd);
 let y_25 :=  (a_12, a_13, a_14, a_15, a_16, a_17, y_20);
 let y_26 :=  addS (a_12, y_23, a_16, a_17, ())  (sumOf y_21);
 let y_27 :=  (a, a_11, a_12, a_13, a_14, a_15, a_16, a_17,  ());
 let y_28 := y_26.snd.fst;
 let y_29 := y_26.snd.snd;
 let y_30 := y_26.fst;
 let y_31 := y_29.snd.fst;
 let y_32 := y_29.fst;
 let y_33 := y_28.snd;
 let y_34 := y_28.fst;
 let y_35 := y_33.snd.fst;
 let y_36 := y_33.fst;
 let y_37 := (y_21, y_25);
 let y_38 := (a, y_25);
 Z_1 y_27 →
 (decide (a_11 < y_13) = true →
 ((0 : Int) ≤ a_11 ∧ a_11 < y_13) ∧
 True ∧
 True ∧
 ((0 : Int) ≤ y_1 ∧
 y_1 ≤ (3 : Int)) ∧
 (decide (sizeD y_26 y_1 > y) =
 true →
 ((y_21 = y_21 ∧
 y_1 = y_1 ∧
 True ∧
 (True ∧ True) ∧
 True) ∧
 ((0 : Int) = (0 : Int) ∧
 (0 : Int) =
 (0 : Int) ∧
 (0 : Int) =
 (0 : Int) ∧
 (0 : Int) =
 (0 : Int) ∧
 (0 : Int) =
 (0 : Int) ∧
 (0 : Int) =
 (0 :
 Int) ∧
 (0 : Int) =
 (0 :
 Int) ∧
 (0 :
 Int) =
 (0 :
 Int)) ∧
 ((0 : Int) = (0 : Int) ∧
 a_12 = a_12 ∧
 a_13 = a_13 ∧
 a_14 = a_14 ∧
 a_15 = a_15 ∧
 a_16 =
 a_16 ∧
 a_17 =
 a_17 ∧
 y_19 =
 y_19) ∧
 y = y ∧ y_5 = y_5) ∧
 Z y_37 ∧ μ y_37 < μ y_18) ∧
 (decide (sizeD y_26 y_1 > y) =
 false →
 (y_7 = true →
 ((sizeD y_26 y_1 == y) =
 true →
 ((y_21 = y_21 ∧
 y_1 = y_1 ∧
 True ∧
 (True ∧
 True) ∧
 True) ∧
 ((0 : Int) =
 (0 : Int) ∧
 (0 : Int) =
 (0 :
 Int) ∧
 (0 : Int) =
 (0 :
 Int) ∧
 (0 :
 Int) =
 (0 :
 Int) ∧
 (0 :
 Int) =
 (0 :
 Int) ∧
 (0 :
 Int) =
 (0 :
 Int) ∧
 (0 :
 Int) =
 (0 :
 Int) ∧
 (0 :
 Int) =
 (0 :
 Int)) ∧
 ((0 : Int) =
 (0 :
 Int) ∧
 a_12 =
 a_12 ∧
 a_13 =
 a_13 ∧
 a_14 =
 a_14 ∧
 a_15 =
 a_15 ∧
 a_16 =
 a_16 ∧
 a_17 =
 a_17 ∧
 y_19 =
 y_19) ∧
 y = y ∧
 y_5 = y_5) ∧
 Z y_37 ∧
 μ y_37 < μ y_18) ∧
 ((sizeD y_26 y_1 == y) =
 false →
 ((y_22 = y_22 ∧
 a = a ∧
 y_1 = y_1 ∧
 True ∧
 (True ∧
 True) ∧
 True ∧
 y_8 =
 y_8 ∧
 y_13 =
 y_13) ∧
 ((0 : Int) =
 (0 : Int) ∧
 (0 : Int) =
 (0 :
 Int) ∧
 (0 : Int) =
 (0 :
 Int) ∧
 (0 :
 Int) =
 (0 :
 Int) ∧
 (0 :
 Int) =
 (0 :
 Int) ∧
 (0 :
 Int) =
 (0 :
 Int) ∧
 (0 :
 Int) =
 (0 :
 Int) ∧
 (0 :
 Int) =
 (0 :
 Int)) ∧
 ((0 : Int) =
 (0 :
 Int) ∧
 y_30 =
 y_30 ∧
 y_34 =
 y_34 ∧
 y_36 =
 y_36 ∧
 y_35 =
 y_35 ∧
 y_29.fst =
 y_32 ∧
 y_29.snd.fst =
 y_31 ∧
 y_19 =
 y_19) ∧
 y = y ∧
 y_5 = y_5) ∧
 Z_1 y_24 ∧
 μ_1 y_24 <
 μ_1 y_27)) ∧
 (y_7 = false →
 ((y_22 = y_22 ∧
 a = a ∧
 y_1 = y_1 ∧
 True ∧
 (True ∧
 True) ∧
 True ∧
 y_8 =
 y_8 ∧
 y_13 =
 y_13) ∧
 ((0 : Int) =
 (0 : Int) ∧
 (0 : Int) =
 (0 : Int) ∧
 (0 : Int) =
 (0 : Int) ∧
 (0 : Int) =
 (0 :
 Int) ∧
 (0 : Int) =
 (0 :
 Int) ∧
 (0 :
 Int) =
 (0 :
 Int) ∧
 (0 :
 Int) =
 (0 :
 Int) ∧
 (0 :
 Int) =
 (0 :
 Int)) ∧
 ((0 : Int) =
 (0 : Int) ∧
 y_30 = y_30 ∧
 y_34 = y_34 ∧
 y_36 =
 y_36 ∧
 y_35 =
 y_35 ∧
 y_29.fst =
 y_32 ∧
 y_29.snd.fst =
 y_31 ∧
 y_19 =
 y_19) ∧
 y = y ∧
 y_5 = y_5) ∧
 Z_1 y_24 ∧
 μ_1 y_24 <
 μ_1 y_27))) ∧
 (decide (a_11 < y_13) = false →
 ((a = a ∧
 y_1 = y_1 ∧
 True ∧ (True ∧ True) ∧ True) ∧
 ((0 : Int) = (0 : Int) ∧
 (0 : Int) = (0 : Int) ∧
 (0 : Int) = (0 : Int) ∧
 (0 : Int) = (0 : Int) ∧
 (0 : Int) = (0 : Int) ∧
 (0 : Int) = (0 : Int) ∧
 (0 : Int) = (0 : Int) ∧
 (0 : Int) =
 (0 : Int)) ∧
 ((0 : Int) = (0 : Int) ∧
 a_12 = a_12 ∧
 a_13 = a_13 ∧
 a_14 = a_14 ∧
 a_15 = a_15 ∧
 a_16 = a_16 ∧
 a_17 = a_17 ∧
 y_19 = y_19) ∧
 y = y ∧ y_5 = y_5) ∧
 Z y_38 ∧ μ y_38 < μ y_18))) ∧
 ((!NT.isNil a) = false →
 (y_10 = true →
 y_10 = true ∧
 (((0 : Int) = (0 : Int) ∧
 y_1 = y_1 ∧
 True ∧
 (True ∧ True) ∧ True ∧ y_9 = y_9 ∧ y_12 = y_12) ∧
 ((0 : Int) = (0 : Int) ∧
 (0 : Int) = (0 : Int) ∧
 (0 : Int) = (0 : Int) ∧
 (0 : Int) = (0 : Int) ∧
 (0 : Int) = (0 : Int) ∧
 (0 : Int) = (0 : Int) ∧
 (0 : Int) = (0 : Int) ∧
 (0 : Int) = (0 : Int)) ∧
 ((0 : Int) = (0 : Int) ∧
 a_1 = a_1 ∧
 a_2 = a_2 ∧
 a_3 = a_3 ∧
 a_4 = a_4 ∧
 a_5 = a_5 ∧ a_6 = a_6 ∧ a_7 = a_7) ∧
 y = y ∧ y_5 = y_5) ∧
 ∃ (Z :
 Int × Int × Int × Int × Int × Int × Int × Unit → Prop),
 ∃ (μ :
 Int × Int × Int × Int × Int × Int × Int × Unit → Nat),
 Z y_17 ∧
 ∀ (a : Int),
 let y_21 :=  ofI (List.getD y_9 (Int.toNat a) (Ty.dflt t99));
 let y_22 :=  IntKind.wrap IntKind.i64 (a + (1 : Int));
 ∀ (a_9 a_10 a_11 a_12 : Int),
 let y_23 := (a_10, a_11, a_12, ());
 ∀ (a_13 a_14 : Int),
 let y_24 :=  (y_22,  (addS (a_9, y_23, a_13, a_14, ()) y_21).fst,  (addS (a_9, y_23, a_13, a_14, ())  y_21).snd.fst.fst,  (addS (a_9, y_23, a_13, a_14, ())  y_21).snd.fst.snd.fst,  (addS (a_9, y_23, a_13, a_14, ())  y_21).snd.fst.snd.snd.fst,  (addS (a_9, y_23, a_13, a_14, ())  y_21).snd.snd);
 let y_25 := (a_9, y_23, a_13, a_14, ());
 let y_26 :=  (a, a_9, a_10, a_11, a_12, a_13, a_14, ());
 let y_27 := (addS y_25 y_21).snd;
 let y_28 :=  ((a_9, y_25, a_7, ()), (0 : Int), ());
 let y_29 := (addS y_25 y_21).fst;
 let y_30 := y_27.fst.snd;
 let y_31 := y_27.snd;
 let y_32 := y_27.fst.fst;
 let y_33 := y_31.snd.fst;
 let y_34 := y_31.fst;
 let y_35 := y_30.snd.fst;
 let y_36 := y_30.fst;
 Z y_26 →
 (decide (a < y_12) = true →
 ((0 : Int) ≤ a ∧ a < y_12) ∧
 True ∧
 True ∧
 ((0 : Int) ≤ y_1 ∧
 y_1 ≤ (3 : Int)) ∧
 (decide
 (sizeD (addS y_25 y_21)
 y_1 >
 y) =
 true →
 y_28 = y_4) ∧
 (decide
 (sizeD (addS y_25 y_21)
 y_1 >
 y) =
 false →
 (y_7 = true →
 ((sizeD (addS y_25 y_21)
 y_1 ==
 y) =
 true →
 y_28 = y_4) ∧
 ((sizeD (addS y_25 y_21)
 y_1 ==
 y) =
 false →
 ((y_22 = y_22 ∧
 y_1 = y_1 ∧
 True ∧
 (True ∧
 True) ∧
 True ∧
 y_9 =
 y_9 ∧
 y_12 =
 y_12) ∧
 ((0 : Int) =
 (0 : Int) ∧
 (0 : Int) =
 (0 :
 Int) ∧
 (0 : Int) =
 (0 :
 Int) ∧
 (0 :
 Int) =
 (0 :
 Int) ∧
 (0 :
 Int) =
 (0 :
 Int) ∧
 (0 :
 Int) =
 (0 :
 Int) ∧
 (0 :
 Int) =
 (0 :
 Int) ∧
 (0 :
 Int) =
 (0 :
 Int)) ∧
 ((0 : Int) =
 (0 :
 Int) ∧
 y_29 =
 y_29 ∧
 y_32 =
 y_32 ∧
 y_36 =
 y_36 ∧
 y_35 =
 y_35 ∧
 y_31.fst =
 y_34 ∧
 y_31.snd.fst =
 y_33 ∧
 a_7 =
 a_7) ∧
 y = y ∧
 y_5 = y_5) ∧
 Z y_24 ∧
 μ y_24 <
 μ y_26)) ∧
 (y_7 = false →
 ((y_22 = y_22 ∧
 y_1 = y_1 ∧
 True ∧
 (True ∧ True) ∧
 True ∧
 y_9 = y_9 ∧
 y_12 =
 y_12) ∧
 ((0 : Int) =
 (0 : Int) ∧
 (0 : Int) =
 (0 : Int) ∧
 (0 : Int) =
 (0 : Int) ∧
 (0 : Int) =
 (0 :
 Int) ∧
 (0 : Int) =
 (0 :
 Int) ∧
 (0 :
 Int) =
 (0 :
 Int) ∧
 (0 :
 Int) =
 (0 :
 Int) ∧
 (0 :
 Int) =
 (0 :
 Int)) ∧
 ((0 : Int) =
 (0 : Int) ∧
 y_29 = y_29 ∧
 y_32 = y_32 ∧
 y_36 =
 y_36 ∧
 y_35 =
 y_35 ∧
 y_31.fst =
 y_34 ∧
 y_31.snd.fst =
 y_33 ∧
 a_7 =
 a_7) ∧
 y = y ∧
 y_5 = y_5) ∧
 Z y_24 ∧
 μ y_24 < μ y_26))) ∧
 (decide (a < y_12) = false → y_28 = y_4)) ∧
 (y_10 = false → ((a_1, y_16, a_7, ()), (0 : Int), ()) = y_4)))))))
theorem vcEq36 : fnVC E36 Tryz.f36 (bodyOf Tryz.f36) cFind = vc36 := by kernel_rfl
def hs37 : List (Nat × Nat × Hint) := [(0, 4, ⟨[.slot 1 t3, .slot 6 t131], [4], [4], []⟩),
  (0, 7, ⟨[.slot 1 t3, .slot 6 t131, .slot 36 t3], [4, 34, 35], [4], []⟩)]
def nm37 : List Nat := [3000000023]
noncomputable def E37 : Env := env tab [(69, cSum), (72, cTop), (74, cSumOf)] [] gl hs37 nm37
def vc37 : Prop :=
 ∀ (x : Option (Nd × Unit) × Int × Unit),
 let y := x.snd.fst;
 let y_1 := x.fst;
 let y_2 := decide (y ≥ (sumOf (topT y_1)).fst);
 okTre y_1 →
 (decide (y < (0 : Int)) = true →
 (((0 : Int), (0 : Int), ((0 : Int), (0 : Int), (0 : Int), ()), (0 : Int), ByteArray.empty, ()), (1 : Int), ()) =
 atT y_1 y) ∧
 (decide (y < (0 : Int)) = false →
 True ∧
 (y_2 = true →
 (((0 : Int), (0 : Int), ((0 : Int), (0 : Int), (0 : Int), ()), (0 : Int), ByteArray.empty, ()), (1 : Int),
 ()) =
 atT y_1 y) ∧
 (y_2 = false →
 True ∧
 ((topT y_1 = topT y_1 ∧ y = y ∧ True) ∧
 (0 : Int) = (0 : Int) ∧
 (0 : Int) = (0 : Int) ∧
 (0 : Int) = (0 : Int) ∧
 (0 : Int) = (0 : Int) ∧
 (0 : Int) = (0 : Int) ∧ (0 : Int) = (0 : Int) ∧ ByteArray.empty = ByteArray.empty) ∧
 ∃ (Z : Int × Nd × Unit → Prop),
 ∃ (μ : Int × Nd × Unit → Nat),
 Z (y, topT y_1, ()) ∧
 ∀ (a : Int) (a_1 : Nd),
 let y_3 :=  (List.getD (optL (NT.asInner a_1)) (0 : Nat)  (([], (0, zS, ())) : List Nd × Nx)).fst;
 let y_4 := (a, a_1, ());
 let y_5 := (List.getD (optL (NT.asLeaf a_1)) (0 : Nat) (([], zS, ()) : Lf)).fst;
 let y_6 := !Option.isSome (NT.asInner a_1);
 let y_7 := (↑(List.length y_3) : Int);
 Z y_4 →
 (y_6 = true →
 Option.isSome (NT.asLeaf a_1) = true ∧
 Option.isSome (NT.asLeaf a_1) = true ∧
 ((0 : Int) ≤ a ∧ a < (↑(List.length y_5) : Int)) ∧
 (List.getD y_5 (Int.toNat a) (Ty.dflt t99), (0 : Int), ()) = atT y_1 y) ∧
 (y_6 = false →
 Option.isSome (NT.asInner a_1) = true ∧
 (((0 : Int) = (0 : Int) ∧ a_1 = a_1 ∧ a = a ∧ True ∧ y_3 = y_3 ∧ y_7 = y_7) ∧
 (0 : Int) = (0 : Int) ∧
 (0 : Int) = (0 : Int) ∧
 (0 : Int) = (0 : Int) ∧
 (0 : Int) = (0 : Int) ∧
 (0 : Int) = (0 : Int) ∧
 (0 : Int) = (0 : Int) ∧ ByteArray.empty = ByteArray.empty) ∧
 ∃ (Z_1 :
 Int × Nd × Int × Unit →
 Prop),
 ∃ (μ_1 :
 Int ×
 Nd × Int × Unit →
 Nat),
 Z_1 (a, a_1, (0 : Int), ()) ∧
 ∀ (a : Int)
 (a_4 : Nd),
 let y := (a, a_4, ());
 ∀ (a_5 : Int),
 let y_8 :=  List.getD y_3 (Int.toNat a_5)  (NT.nil : Nd);
 let y_9 := (a, a_4, a_5, ());
 let y_10 := IntKind.wrap IntKind.i64 (a_5 + (1 : Int));
 let y_11 :=  (IntKind.wrap IntKind.i64 (a - (sumOf y_8).fst), a_4, y_10, ());
 let y_12 := (sumOf y_8).fst;
 let y_13 := (a, y_8, ());
 Z_1 y_9 →
 (decide (a_5 < y_7) = true →
 ((0 : Int) ≤ a_5 ∧ a_5 < y_7) ∧
 True ∧
 (decide (a ≥ y_12) = true →
 ((y_10 = y_10 ∧
 a_4 = a_4 ∧
 IntKind.wrap IntKind.i64 (a - y_12) =
 IntKind.wrap IntKind.i64 (a - y_12) ∧
 True ∧ y_3 = y_3 ∧ y_7 = y_7) ∧
 (0 : Int) = (0 : Int) ∧
 (0 : Int) = (0 : Int) ∧
 (0 : Int) = (0 : Int) ∧
 (0 : Int) = (0 : Int) ∧
 (0 : Int) = (0 : Int) ∧
 (0 : Int) = (0 : Int) ∧
 ByteArray.empty = ByteArray.empty) ∧
 Z_1 y_11 ∧ μ_1 y_11 < μ_1 y_9) ∧
 (decide (a ≥ y_12) = false →
 ((y_8 = y_8 ∧ a = a ∧ True) ∧
 (0 : Int) = (0 : Int) ∧
 (0 : Int) = (0 : Int) ∧
 (0 : Int) = (0 : Int) ∧
 (0 : Int) = (0 : Int) ∧
 (0 : Int) = (0 : Int) ∧
 (0 : Int) = (0 : Int) ∧
 ByteArray.empty = ByteArray.empty) ∧
 Z y_13 ∧ μ y_13 < μ y_4)) ∧
 (decide (a_5 < y_7) = false →
 ((a_4 = a_4 ∧ a = a ∧ True) ∧
 (0 : Int) = (0 : Int) ∧
 (0 : Int) = (0 : Int) ∧
 (0 : Int) = (0 : Int) ∧
 (0 : Int) = (0 : Int) ∧
 (0 : Int) = (0 : Int) ∧
 (0 : Int) = (0 : Int) ∧
 ByteArray.empty = ByteArray.empty) ∧
 Z y ∧ μ y < μ y_4))))
theorem vcEq37 : fnVC E37 Tryz.f37 (bodyOf Tryz.f37) cAt = vc37 := by kernel_rfl
def hs40 : List (Nat × Nat × Hint) := [(0, 3, ⟨[.rowS 3 900000003 t161 161, .slot 10 t3], [8, 9], [], []⟩)]
def nm40 : List Nat := [3000000023]
noncomputable def E40 : Env := env tab [(35, cTreeOf), (79, cItems)] [] gl hs40 nm40
def vc40 : Prop :=
 ∀ (x : Option (Option (Nd × Unit) × Unit) × Unit),
 let y := topT (treeOf x.fst);
 let y_1 := (↑(List.length (items y)) : Int);
 (y = (NT.nil : Nd) ∨ ∃ (h : Nat), h ≤ (3 : Nat) ∧ Wf h true y) ∧ List.length (items y) ≤ (10000 : Nat) →
 True ∧
 ((y = (NT.nil : Nd) ∨ ∃ (h : Nat), h ≤ (3 : Nat) ∧ Wf h true y) ∧ List.length (items y) ≤ (100000 : Nat)) ∧
 (((0 : Int) = (0 : Int) ∧ True ∧ items y = items y ∧ y_1 = y_1) ∧ True ∧ True) ∧
 ∃ (Z : List (Int × Int × Unit) × Int × Unit → Prop),
 ∃ (μ : List (Int × Int × Unit) × Int × Unit → Nat),
 Z ([], (0 : Int), ()) ∧
 ∀ (a : List (Int × Int × Unit)) (a_1 : Int),
 let y_2 :=  [((List.getD (items y) (Int.toNat a_1) (Ty.dflt t99)).snd.fst,  (List.getD (items y) (Int.toNat a_1) (Ty.dflt t99)).snd.snd.fst.snd.fst, ())];
 let y_3 := (a, a_1, ());
 let y_4 := IntKind.wrap IntKind.i64 (a_1 + (1 : Int));
 let y_5 := (a ++ y_2, y_4, ());
 Z y_3 →
 (decide (a_1 < y_1) = true →
 ((0 : Int) ≤ a_1 ∧ a_1 < y_1) ∧
 ((0 : Int) ≤ (1 : Int) ∧ (1 : Int) < (↑(3 : Nat) : Int)) ∧
 (List.length a + List.length y_2) * (16 : Nat) ≤ (140737488355328 : Nat) ∧
 List.length a + List.length y_2 ≤ maxLen ∧
 ((y_4 = y_4 ∧ True ∧ items y = items y ∧ y_1 = y_1) ∧ a ++ y_2 = a ++ y_2 ∧ True) ∧
 Z y_5 ∧ μ y_5 < μ y_3) ∧
 (decide (a_1 < y_1) = false → a = piecesI (treeOf x.fst))
theorem vcEq40 : fnVC E40 Tryz.f40 (bodyOf Tryz.f40) cPieces = vc40 := by kernel_rfl
def hs41 : List (Nat × Nat × Hint) := [(0, 3, ⟨[.rowS 3 900000003 t163 163, .slot 4 t3], [1], [1], []⟩),
  (0, 6, ⟨[.rowS 3 900000003 t163 163, .slot 16 t3], [1, 4, 14, 15], [1], []⟩),
  (0, 10, ⟨[.rowS 3 900000003 t163 163, .slot 28 t3], [1, 4, 6, 14, 15, 16, 27], [1, 6], []⟩)]
def nm41 : List Nat := [3000000023]
noncomputable def E41 : Env := env tab [(27, cRDecode)] [] gl hs41 nm41
def vc41 : Prop :=
 ∀ (x : (Int × List Inl × Int × Unit) × Unit),
 let y := x.fst.snd.fst;
 let y_1 := x.fst.snd.snd.fst;
 let y_2 := x.fst.fst;
 let y_3 := (↑(List.length y) : Int);
 smallW x.fst →
 (((0 : Int) = (0 : Int) ∧ True ∧ True) ∧ (y_2 = y_2 ∧ y = y ∧ y_1 = y_1) ∧ True ∧ True) ∧
 ∃ (Z : List (Int × Int × Unit) × Int × Unit → Prop),
 ∃ (μ : List (Int × Int × Unit) × Int × Unit → Nat),
 Z ([], (0 : Int), ()) ∧
 ∀ (a : List (Int × Int × Unit)) (a_1 : Int),
 let y_4 := [(a_1, (0 : Int), ())];
 let y_5 := IntKind.wrap IntKind.i64 (a_1 + (1 : Int));
 let y_6 := (a, a_1, ());
 let y_7 := (y_5, ());
 Z y_6 →
 (decide (a_1 ≤ y_2) = true →
 (((0 : Int) = (0 : Int) ∧ True ∧ True ∧ a_1 = a_1 ∧ y = y ∧ y_3 = y_3) ∧
 (y_2 = y_2 ∧ y = y ∧ y_1 = y_1) ∧ a = a ∧ True) ∧
 ∃ (Z_1 : List (Int × Int × Unit) × Int × Unit → Prop),
 ∃ (μ_1 : List (Int × Int × Unit) × Int × Unit → Nat),
 Z_1 (a, (0 : Int), ()) ∧
 ∀ (a : List (Int × Int × Unit)),
 let y_8 := a ++ y_4;
 let y_9 := (a, y_7);
 let y_10 := (y_8, y_7);
 ∀ (a_4 : Int),
 let y_11 := (List.getD y (Int.toNat a_4) (Ty.dflt t48)).snd.snd.snd;
 let y_12 := [(a_1, (List.getD y (Int.toNat a_4) (Ty.dflt t48)).fst, ())];
 let y_13 := (List.getD y (Int.toNat a_4) (Ty.dflt t48)).snd;
 let y_14 := IntKind.wrap IntKind.i64 (a_4 + (1 : Int));
 let y_15 := (a, a_4, ());
 let y_16 := (List.getD y (Int.toNat a_4) (Ty.dflt t48)).fst;
 let y_17 := (a, y_14, ());
 let y_18 := y_13.snd.fst;
 let y_19 := y_13.fst;
 let y_20 := y_11.snd.fst;
 let y_21 := y_11.fst;
 let y_22 := (↑(List.length (decodeL y_20)) : Int);
 Z_1 y_15 →
 (decide (a_4 < y_3) = true →
 ((0 : Int) ≤ a_4 ∧ a_4 < y_3) ∧
 ((y_19 != a_1) = true →
 ((y_14 = y_14 ∧ True ∧ True ∧ a_1 = a_1 ∧ y = y ∧ y_3 = y_3) ∧
 (y_2 = y_2 ∧ y = y ∧ y_1 = y_1) ∧ a = a ∧ True) ∧
 Z_1 y_17 ∧ μ_1 y_17 < μ_1 y_15) ∧
 ((y_19 != a_1) = false →
 ByteArray.size y_20 ≤ (1000000000 : Nat) ∧
 (((0 : Int) = (0 : Int) ∧
 True ∧
 True ∧
 a_1 = a_1 ∧
 True ∧ y = y ∧ y_3 = y_3 ∧ a_4 = a_4 ∧ y_22 = y_22) ∧
 ((y_2 = y_2 ∧ y = y ∧ y_1 = y_1) ∧
 y_16 = y_16 ∧
 y_19 = y_19 ∧ y_18 = y_18 ∧ y_21 = y_21 ∧ y_20 = y_20) ∧
 a = a ∧ True) ∧
 ∃ (Z : List (Int × Int × Unit) × Int × Unit → Prop),
 ∃ (μ : List (Int × Int × Unit) × Int × Unit → Nat),
 Z (a, (0 : Int), ()) ∧
 ∀ (a : List (Int × Int × Unit)),
 let y_23 := a ++ y_12;
 let y_24 := (a, y_14, ());
 ∀ (a_8 : Int),
 let y_25 :=  (y_23, IntKind.wrap IntKind.i64 (a_8 + (1 : Int)), ());
 let y_26 := (a, a_8, ());
 Z y_26 →
 (decide (a_8 < y_22) = true →
 (List.length a + List.length y_12) * (16 : Nat) ≤
 (140737488355328 : Nat) ∧
 List.length a + List.length y_12 ≤ maxLen ∧
 ((IntKind.wrap IntKind.i64 (a_8 + (1 : Int)) =
 IntKind.wrap IntKind.i64 (a_8 + (1 : Int)) ∧
 True ∧
 True ∧
 a_1 = a_1 ∧
 True ∧
 y = y ∧
 y_3 = y_3 ∧
 a_4 = a_4 ∧ y_22 = y_22) ∧
 ((y_2 = y_2 ∧ y = y ∧ y_1 = y_1) ∧
 y_16 = y_16 ∧
 y_19 = y_19 ∧
 y_18 = y_18 ∧
 y_21 = y_21 ∧ y_20 = y_20) ∧
 y_23 = y_23 ∧ True) ∧
 Z y_25 ∧ μ y_25 < μ y_26) ∧
 (decide (a_8 < y_22) = false →
 ((y_14 = y_14 ∧
 True ∧ True ∧ a_1 = a_1 ∧ y = y ∧ y_3 = y_3) ∧
 (y_2 = y_2 ∧ y = y ∧ y_1 = y_1) ∧ a = a ∧ True) ∧
 Z_1 y_24 ∧ μ_1 y_24 < μ_1 y_15))) ∧
 (decide (a_4 < y_3) = false →
 (decide (a_1 < y_2) = true →
 (List.length a + List.length y_4) * (16 : Nat) ≤ (140737488355328 : Nat) ∧
 List.length a + List.length y_4 ≤ maxLen ∧
 ((y_5 = y_5 ∧ True ∧ True) ∧
 (y_2 = y_2 ∧ y = y ∧ y_1 = y_1) ∧ y_8 = y_8 ∧ True) ∧
 Z y_10 ∧ μ y_10 < μ y_6) ∧
 (decide (a_1 < y_2) = false →
 ((y_5 = y_5 ∧ True ∧ True) ∧ (y_2 = y_2 ∧ y = y ∧ y_1 = y_1) ∧ a = a ∧ True) ∧
 Z y_9 ∧ μ y_9 < μ y_6))) ∧
 (decide (a_1 ≤ y_2) = false → a = spots x.fst)
theorem vcEq41 : fnVC E41 Tryz.f41 (bodyOf Tryz.f41) cSpots = vc41 := by kernel_rfl
def hs42 : List (Nat × Nat × Hint) := [(0, 2, ⟨[.slot 8 t3], [0, 1, 7], [], []⟩)]
def nm42 : List Nat := [3000000023]
noncomputable def E42 : Env := env tab [] [] gl hs42 nm42
def vc42 : Prop :=
 ∀ (x : List (Int × Int × Unit) × List (Int × Int × Unit) × Unit),
 List.length x.fst ≤ maxLen ∧ List.length x.snd.fst ≤ maxLen →
 ((0 : Int) = (0 : Int) ∧
 x.fst = x.fst ∧ x.snd.fst = x.snd.fst ∧ (↑(List.length x.fst) : Int) = (↑(List.length x.fst) : Int)) ∧
 ∃ (Z : Int × Unit → Prop),
 ∃ (μ : Int × Unit → Nat),
 Z ((0 : Int), ()) ∧
 ∀ (a : Int),
 Z (a, ()) →
 (decide (a < (↑(List.length x.fst) : Int)) = true →
 (decide (a ≥ (↑(List.length x.snd.fst) : Int)) = true → false = sameP x.fst x.snd.fst) ∧
 (decide (a ≥ (↑(List.length x.snd.fst) : Int)) = false →
 ((0 : Int) ≤ a ∧ a < (↑(List.length x.fst) : Int)) ∧
 ((0 : Int) ≤ a ∧ a < (↑(List.length x.snd.fst) : Int)) ∧
 ((!Ty.beq t164 (List.getD x.fst (Int.toNat a) (Ty.dflt t164))
 (List.getD x.snd.fst (Int.toNat a) (Ty.dflt t164))) =
 true →
 false = sameP x.fst x.snd.fst) ∧
 ((!Ty.beq t164 (List.getD x.fst (Int.toNat a) (Ty.dflt t164))
 (List.getD x.snd.fst (Int.toNat a) (Ty.dflt t164))) =
 false →
 (IntKind.wrap IntKind.i64 (a + (1 : Int)) = IntKind.wrap IntKind.i64 (a + (1 : Int)) ∧
 x.fst = x.fst ∧
 x.snd.fst = x.snd.fst ∧
 (↑(List.length x.fst) : Int) = (↑(List.length x.fst) : Int)) ∧
 Z (IntKind.wrap IntKind.i64 (a + (1 : Int)), ()) ∧
 μ (IntKind.wrap IntKind.i64 (a + (1 : Int)), ()) < μ (a, ())))) ∧
 (decide (a < (↑(List.length x.fst) : Int)) = false →
 ((↑(List.length x.fst) : Int) == (↑(List.length x.snd.fst) : Int)) = sameP x.fst x.snd.fst)
theorem vcEq42 : fnVC E42 Tryz.f42 (bodyOf Tryz.f42) cSameP = vc42 := by kernel_rfl
def hs43 : List (Nat × Nat × Hint) := [(0, 3, ⟨[.rowS 3 900000003 t164 164, .slot 8 t3], [6, 7], [], []⟩)]
def nm43 : List Nat := [3000000023]
noncomputable def E43 : Env := env tab [] [] gl hs43 nm43
def vc43 : Prop :=
 ∀ (x : List (Int × Int × Unit) × Unit),
 List.length x.fst ≤ (1000000 : Nat) →
 (((0 : Int) = (0 : Int) ∧ True ∧ x.fst = x.fst ∧ (↑(List.length x.fst) : Int) = (↑(List.length x.fst) : Int)) ∧
 True ∧ True) ∧
 ∃ (Z : List (Int × Int × Unit) × Int × Unit → Prop),
 ∃ (μ : List (Int × Int × Unit) × Int × Unit → Nat),
 Z ([], (0 : Int), ()) ∧
 ∀ (a : List (Int × Int × Unit)) (a_1 : Int),
 Z (a, a_1, ()) →
 (decide (a_1 < (↑(List.length x.fst) : Int)) = true →
 ((0 : Int) ≤ a_1 ∧ a_1 < (↑(List.length x.fst) : Int)) ∧
 (List.length a + List.length [List.getD x.fst (Int.toNat a_1) (Ty.dflt t161)]) * (16 : Nat) ≤
 (140737488355328 : Nat) ∧
 List.length a + List.length [List.getD x.fst (Int.toNat a_1) (Ty.dflt t161)] ≤ maxLen ∧
 ((IntKind.wrap IntKind.i64 (a_1 + (1 : Int)) = IntKind.wrap IntKind.i64 (a_1 + (1 : Int)) ∧
 True ∧ x.fst = x.fst ∧ (↑(List.length x.fst) : Int) = (↑(List.length x.fst) : Int)) ∧
 a ++ [List.getD x.fst (Int.toNat a_1) (Ty.dflt t161)] =
 a ++ [List.getD x.fst (Int.toNat a_1) (Ty.dflt t161)] ∧
 True) ∧
 Z
 (a ++ [List.getD x.fst (Int.toNat a_1) (Ty.dflt t161)],
 IntKind.wrap IntKind.i64 (a_1 + (1 : Int)), ()) ∧
 μ
 (a ++ [List.getD x.fst (Int.toNat a_1) (Ty.dflt t161)],
 IntKind.wrap IntKind.i64 (a_1 + (1 : Int)), ()) <
 μ (a, a_1, ())) ∧
 (decide (a_1 < (↑(List.length x.fst) : Int)) = false → a = x.fst)
theorem vcEq43 : fnVC E43 Tryz.f43 (bodyOf Tryz.f43) cRefsP = vc43 := by kernel_rfl
def hs44 : List (Nat × Nat × Hint) := [(0, 3, ⟨[.rowS 3 900000003 t164 164, .slot 10 t3], [8, 9], [], []⟩)]
def nm44 : List Nat := [3000000023]
noncomputable def E44 : Env := env tab [(41, cSpots)] [] gl hs44 nm44
def vc44 : Prop :=
 ∀ (x : (Int × List Inl × Int × Unit) × Unit),
 let y := spots x.fst;
 let y_1 := (↑(List.length y) : Int);
 smallW x.fst →
 smallW x.fst ∧
 (((0 : Int) = (0 : Int) ∧ True ∧ y = y ∧ y_1 = y_1) ∧ True ∧ True) ∧
 ∃ (Z : List (Int × Int × Unit) × Int × Unit → Prop),
 ∃ (μ : List (Int × Int × Unit) × Int × Unit → Nat),
 Z ([], (0 : Int), ()) ∧
 ∀ (a : List (Int × Int × Unit)),
 let y_2 := IntKind.wrap IntKind.i64 ((↑(List.length a) : Int) - (1 : Int));
 let y_3 := (List.getD a (Int.toNat y_2) (Ty.dflt t164)).fst;
 let y_4 :=  List.set a (Int.toNat y_2)  (y_3, IntKind.wrap IntKind.i64 ((List.getD a (Int.toNat y_2) (Ty.dflt t164)).snd.fst + (1 : Int)),  ());
 ∀ (a_1 : Int),
 let y_5 := [((List.getD y (Int.toNat a_1) (Ty.dflt t163)).snd.fst, (1 : Int), ())];
 let y_6 := (a, a_1, ());
 let y_7 := IntKind.wrap IntKind.i64 (a_1 + (1 : Int));
 let y_8 := y_3 == (List.getD y (Int.toNat a_1) (Ty.dflt t163)).snd.fst;
 let y_9 := (y_4, y_7, ());
 let y_10 := (a ++ y_5, y_7, ());
 let y_11 := a ++ y_5;
 let y_12 := List.length a + List.length y_5;
 Z y_6 →
 (decide (a_1 < y_1) = true →
 ((0 : Int) ≤ a_1 ∧ a_1 < y_1) ∧
 (decide (a_1 > (0 : Int)) = true →
 ((0 : Int) ≤ y_2 ∧ y_2 < (↑(List.length a) : Int)) ∧
 (y_8 = true →
 ((0 : Int) ≤ y_2 ∧ y_2 < (↑(List.length a) : Int)) ∧
 ((0 : Int) ≤ y_2 ∧ y_2 < (↑(List.length a) : Int)) ∧
 ((y_7 = y_7 ∧ True ∧ y = y ∧ y_1 = y_1) ∧ y_4 = y_4 ∧ True) ∧
 Z y_9 ∧ μ y_9 < μ y_6) ∧
 (y_8 = false →
 y_12 * (16 : Nat) ≤ (140737488355328 : Nat) ∧
 y_12 ≤ maxLen ∧
 ((y_7 = y_7 ∧ True ∧ y = y ∧ y_1 = y_1) ∧ y_11 = y_11 ∧ True) ∧
 Z y_10 ∧ μ y_10 < μ y_6)) ∧
 (decide (a_1 > (0 : Int)) = false →
 y_12 * (16 : Nat) ≤ (140737488355328 : Nat) ∧
 y_12 ≤ maxLen ∧
 ((y_7 = y_7 ∧ True ∧ y = y ∧ y_1 = y_1) ∧ y_11 = y_11 ∧ True) ∧
 Z y_10 ∧ μ y_10 < μ y_6)) ∧
 (decide (a_1 < y_1) = false → a = refPieces x.fst)
theorem vcEq44 : fnVC E44 Tryz.f44 (bodyOf Tryz.f44) cRefPieces = vc44 := by kernel_rfl
def hs45 : List (Nat × Nat × Hint) := [(0, 3, ⟨[.slot 5 t3, .slot 6 t3], [0, 1], [], []⟩)]
def nm45 : List Nat := [3000000023]
noncomputable def E45 : Env := env tab [] [] gl hs45 nm45
def vc45 : Prop :=
 ∀ (x : Int × Int × Unit),
 x.fst ≤ (1000 : Int) ∧ (0 : Int) ≤ x.snd.fst ∧ x.snd.fst ≤ (1000000 : Int) →
 ((2 : Int) = (2 : Int) ∧ (1 : Int) = (1 : Int) ∧ x.fst = x.fst ∧ x.snd.fst = x.snd.fst) ∧
 ∃ (Z : Int × Int × Unit → Prop),
 ∃ (μ : Int × Int × Unit → Nat),
 Z ((1 : Int), (2 : Int), ()) ∧
 ∀ (a a_1 : Int),
 Z (a, a_1, ()) →
 (decide (a_1 < x.fst) = true →
 (decide
 (IntKind.wrap IntKind.i64 ((4 : Int) * a) >
 IntKind.wrap IntKind.i64 (x.snd.fst + (1 : Int))) =
 true →
 false = highB x.fst x.snd.fst) ∧
 (decide
 (IntKind.wrap IntKind.i64 ((4 : Int) * a) >
 IntKind.wrap IntKind.i64 (x.snd.fst + (1 : Int))) =
 false →
 (IntKind.wrap IntKind.i64 (a_1 + (1 : Int)) = IntKind.wrap IntKind.i64 (a_1 + (1 : Int)) ∧
 IntKind.wrap IntKind.i64 ((4 : Int) * a) = IntKind.wrap IntKind.i64 ((4 : Int) * a) ∧
 x.fst = x.fst ∧ x.snd.fst = x.snd.fst) ∧
 Z (IntKind.wrap IntKind.i64 ((4 : Int) * a), IntKind.wrap IntKind.i64 (a_1 + (1 : Int)), ()) ∧
 μ
 (IntKind.wrap IntKind.i64 ((4 : Int) * a), IntKind.wrap IntKind.i64 (a_1 + (1 : Int)),
 ()) <
 μ (a, a_1, ()))) ∧
 (decide (a_1 < x.fst) = false →
 (Ty.beq t4 (x.fst == (0 : Int)) (x.snd.fst == (0 : Int)) = true →
 decide (x.fst ≥ (0 : Int)) = highB x.fst x.snd.fst) ∧
 (Ty.beq t4 (x.fst == (0 : Int)) (x.snd.fst == (0 : Int)) = false → false = highB x.fst x.snd.fst))
theorem vcEq45 : fnVC E45 Tryz.f45 (bodyOf Tryz.f45) cHigh = vc45 := by kernel_rfl
def hs67 : List (Nat × Nat × Hint) := []
def nm67 : List Nat := [3000000023]
noncomputable def E67 : Env := env tab [] [] gl hs67 nm67
def vc67 : Prop :=
 ∀ (x : Int × Unit),
 True → ((0 : Int), (0 : Int), (x.fst, x.fst, (0 : Int), ()), (0 : Int), ByteArray.empty, ()) = plainI x.fst
theorem vcEq67 : fnVC E67 Tryz.f67 (bodyOf Tryz.f67) cPlain = vc67 := by kernel_rfl
def hs68 : List (Nat × Nat × Hint) := []
def nm68 : List Nat := [3000000023]
noncomputable def E68 : Env := env tab [(53, cCount)] [] gl hs68 nm68
def vc68 : Prop :=
 ∀ (x : Inl × Unit),
 ByteArray.size (txt x.fst) ≤ maxLen →
 ByteArray.size x.fst.snd.snd.snd.snd.fst ≤ maxLen ∧
 ((0 : Int), x.fst.fst, ((0 : Int), (↑(List.length (decodeL x.fst.snd.snd.snd.snd.fst)) : Int), (0 : Int), ()),
 (0 : Int), ByteArray.empty, ()) =
 virtualI x.fst
theorem vcEq68 : fnVC E68 Tryz.f68 (bodyOf Tryz.f68) cVirtual = vc68 := by kernel_rfl
end Go.Fr.Z14
namespace Go.Fr.Z14
open Go Go.Fr Go.Proofs
abbrev zI0 : Inl := (0, 0, 0, 0, ByteArray.empty, ())
theorem dInl : Ty.dflt t48 = zI0 := rfl
theorem d163 : Ty.dflt t163 = ((0, 0, ()) : Spt) := rfl
theorem d161 : Ty.dflt t161 = ((0, 0, ()) : Pce) := rfl
theorem d164 : Ty.dflt t164 = ((0, 0, ()) : Pce) := rfl
theorem p5 : vc5 := by
  unfold vc5
  simp only [eq_self, true_and, and_true, decide_eq_true_eq, decide_eq_false_iff_not]
  rintro ⟨n, l, ⟨⟩⟩
  simp only [maxLen_eq, dInl]
  intro hl
  have yes : (n < 0 ∨ n > 300 ∨ (l.length : Int) > 60 ∨ ∃ x ∈ l, ((txt x).size : Int) > 200) → true = longW n l := fun h => by
    unfold longW
    rcases h with h | h | h | ⟨x, h1, h2⟩
    · simp [h]
    · simp [h]
    · simp [h]
    · rw [List.any_eq_true.2 ⟨x, h1, decide_eq_true h2⟩, Bool.or_true]
  refine ⟨fun h => yes (.inl h), fun g0 => ⟨fun h => yes (.inr (.inl h)), fun g1 => ⟨fun h => yes (.inr (.inr (.inl h))), fun g2 => ?_⟩⟩⟩
  refine ⟨fun z => ∃ k : Nat, k ≤ l.length ∧ z.1 = (k : Int) ∧ ∀ j, j < k → ¬ (((txt (l.getD j zI0)).size : Int) > 200), fun z => l.length - z.1.toNat, ⟨0, Nat.zero_le _, rfl, fun j hj => by omega⟩, ?_⟩
  rintro i ⟨k, hk, hi, hno⟩
  simp only at hi
  subst hi
  refine ⟨fun h1 => ⟨⟨by omega, h1⟩, fun h2 => ?_, fun h2 => ?_⟩, fun h1 => ?_⟩
  · rw [toNat_cast] at h2
    have hlt : k < l.length := by omega
    exact yes (.inr (.inr (.inr ⟨_, getD_in zI0 hlt, h2⟩)))
  · rw [toNat_cast] at h2
    have hw : IntKind.i64.wrap ((k : Int) + 1) = ((k + 1 : Nat) : Int) := wrap_succ (by omega)
    rw [hw]
    refine ⟨⟨k + 1, by omega, rfl, fun j hj => ?_⟩, by simp only [toNat_cast]; omega⟩
    by_cases e : j = k
    · subst e; exact h2
    · exact hno j (by omega)
  · have hke : k = l.length := by omega
    subst hke
    unfold longW
    rw [decide_eq_false g0, decide_eq_false g1, decide_eq_false g2, Bool.false_or, Bool.false_or, Bool.false_or]
    symm
    rw [List.any_eq_false]
    intro x hx
    obtain ⟨j, hj, e⟩ := List.getElem_of_mem hx
    have := hno j hj
    rw [getD_of zI0 hj, e] at this
    simpa using this
theorem rowF_len (t : Int) : (f : Int) → (l : List Inl) → (rowF t f l).length ≤ 2 * l.length + 1
  | f, [] => by
    unfold rowF
    split <;> simp
  | f, x :: r => by
    unfold rowF
    split
    · have := rowF_len t x.2.1 r
      simp; omega
    · have := rowF_len t f r
      simp; omega
theorem p9 : vc9 := by
  unfold vc9
  try simp only [true_and]
  rintro ⟨s, ⟨⟩⟩
  simp only []
  rintro ⟨h1, h2⟩
  have := rowF_len (lenI s) 0 (allI s)
  have h3 : (rowF (lenI s) 0 (allI s)).length ≤ 100000 := by omega
  exact ⟨h1, ⟨h1, h2⟩, h3, rfl⟩
theorem p18 : vc18 := by
  unfold vc18
  simp only [true_and, bne_iff_ne, bne_eq_false_iff_eq, ne_eq]
  rintro ⟨w, a, b, ⟨⟩⟩ hw
  have y : ¬ (findT (treeOf w) 0 a b).2.1 = 0 → (0, (findT (treeOf w) 0 a b).2) = outW w a b := fun h => by
    unfold outW
    rw [if_pos h]
  have n : (findT (treeOf w) 0 a b).2.1 = 0 → (w64 (w64 ((findT (treeOf w) 0 a b).1.2.1.2.1.2.1 + a) - (findT (treeOf w) 0 a b).1.2.1.2.1.1), 0, ()) = outW w a b := fun h => by
    unfold outW
    rw [if_neg (fun hh => hh h)]
  (repeat' (first | apply And.intro | intro _))
  all_goals first
    | exact hw
    | exact y (by assumption)
    | exact n (by assumption)
    | decide
    | omega
theorem p19 : vc19 := by
  unfold vc19
  simp only [true_and, beq_iff_eq, beq_eq_false_iff_ne, bne_iff_ne, bne_eq_false_iff_eq, ne_eq]
  rintro ⟨w, a, ⟨⟩⟩
  simp only []
  intro hw
  have c0 : ¬ (findT (treeOf w) 1 a 1).2.1 = 0 → (0, 0, (findT (treeOf w) 1 a 1).2) = inW w a := fun h => by
    unfold inW
    rw [if_pos h]
  have c1 : (findT (treeOf w) 1 a 1).2.1 = 0 → (atT (treeOf w) (findT (treeOf w) 1 a 1).1.1).1.2.1 = 0 → (w64 ((findT (treeOf w) 1 a 1).1.2.1.2.1.1 + w64 (a - (findT (treeOf w) 1 a 1).1.2.1.2.1.2.1)), 0, 0, ()) = inW w a := fun h g => by
    unfold inW
    rw [if_neg (fun hh => hh h), if_pos g]
  have c2 : (findT (treeOf w) 1 a 1).2.1 = 0 → ¬ (atT (treeOf w) (findT (treeOf w) 1 a 1).1.1).1.2.1 = 0 → w64 (a - (findT (treeOf w) 1 a 1).1.2.1.2.1.2.1) = 0 → ((findT (treeOf w) 1 a 1).1.2.1.2.1.1, 0, 0, ()) = inW w a := fun h g i => by
    unfold inW
    rw [if_neg (fun hh => hh h), if_neg g, if_pos i]
  have c3 : (findT (treeOf w) 1 a 1).2.1 = 0 → ¬ (atT (treeOf w) (findT (treeOf w) 1 a 1).1.1).1.2.1 = 0 → ¬ w64 (a - (findT (treeOf w) 1 a 1).1.2.1.2.1.2.1) = 0 → ((findT (treeOf w) 1 a 1).1.2.1.2.1.1, (atT (treeOf w) (findT (treeOf w) 1 a 1).1.1).1.2.1, 0, ()) = inW w a := fun h g i => by
    unfold inW
    rw [if_neg (fun hh => hh h), if_neg g, if_neg i]
  have hw1 := hw.1
  generalize okTre (treeOf w) = Q at hw ⊢
  (repeat' (first | apply And.intro | intro _))
  all_goals first
    | exact hw
    | exact hw1
    | exact c0 (by assumption)
    | exact c1 (by assumption) (by assumption)
    | exact c2 (by assumption) (by assumption) (by assumption)
    | exact c3 (by assumption) (by assumption) (by assumption)
    | decide
    | omega
theorem p33 : vc33 := by
  unfold vc33
  try simp only [eq_self, true_and, and_true]
  intro x
  (repeat' (first | apply And.intro | intro _))
  all_goals first
    | decide
    | rfl
    | trivial
theorem p20 : vc20 := by
  unfold vc20
  intro x _
  exact ⟨trivial, trivial, rfl⟩
theorem p35 : vc35 := by
  unfold vc35
  rintro ⟨s, ⟨⟩⟩ -
  cases s with
  | none => exact ⟨fun _ => rfl, fun h => by cases h⟩
  | some s => exact ⟨fun h => (by cases h), fun _ => ⟨rfl, rfl⟩⟩
theorem p34 : vc34 := by
  unfold vc34
  simp only [decide_eq_true_eq, decide_eq_false_iff_not]
  rintro ⟨s, n, ⟨⟩⟩ -
  unfold fitsW
  simp only [eq_comm (b := (_ && _ && _))]
  (repeat' (first | apply And.intro | intro _))
  all_goals simp_all
  all_goals omega
theorem p67 : vc67 := by
  unfold vc67
  intro x _
  rfl
theorem p68 : vc68 := by
  unfold vc68
  rintro ⟨x, ⟨⟩⟩ h
  exact ⟨h, rfl⟩
theorem spotsX_len {k : Int} {l : List Inl} (h : ∀ x ∈ l, (txt x).size ≤ 1000) : (spotsX k l).length ≤ 1000 * l.length := by
  induction l with
  | nil => exact Nat.zero_le _
  | cons x r ih =>
    have := ih fun y hy => h y (List.mem_cons_of_mem _ hy)
    have h1 := h x (List.mem_cons_self ..)
    have h2 := decL_len (txt x)
    have h3 : (lenT x).toNat = (decodeL (txt x)).length := rfl
    rw [spotsX_cons, List.length_append, List.length_cons]
    split
    · rw [List.length_replicate]; omega
    · show 0 + _ ≤ _; omega
theorem spF_len {n : Int} {l : List Inl} (h : ∀ x ∈ l, (txt x).size ≤ 1000) (hl : l.length ≤ 60) : (m : Nat) → (f : Int) → (spF n l f m).length ≤ 60001 * m
  | 0, _ => Nat.zero_le _
  | m + 1, f => by
    have h1 := spotsX_len (k := f) h
    have ih := spF_len (n := n) h hl m (f + 1)
    show (spotsX f l ++ _ ++ _).length ≤ _
    rw [List.length_append, List.length_append]
    split
    · rw [List.length_singleton]; omega
    · rw [List.length_nil]; omega
theorem spots_bd {w : WSet} (h1 : w.2.1.length ≤ 60) (h2 : ∀ x ∈ w.2.1, (txt x).size ≤ 1000) (h3 : w.1 ≤ 1000) : (spots w).length ≤ 100000000 := by
  rw [spots_F]
  have := spF_len (n := w.1) h2 h1 (w.1 + 1).toNat 0
  omega
end Go.Fr.Z14
namespace Go.Fr.Z14
open Go Go.Fr Go.Proofs
theorem beq_t164 (a b : Pce) : Ty.beq t164 a b = true ↔ a = b := by
  obtain ⟨a1, a2, ⟨⟩⟩ := a
  obtain ⟨b1, b2, ⟨⟩⟩ := b
  show ((a1 == b1) && ((a2 == b2) && true)) = true ↔ _
  simp
theorem beq_self_t164 (a : Pce) : Ty.beq t164 a a = true := (beq_t164 a a).2 rfl
theorem p42 : vc42 := by
  unfold vc42
  simp only [eq_self, true_and, and_true, decide_eq_true_eq, decide_eq_false_iff_not, Bool.not_eq_true', Bool.not_eq_false']
  rintro ⟨a, b, ⟨⟩⟩
  simp only [maxLen_eq, d164]
  rintro ⟨h1, h2⟩
  have no : a ≠ b → false = sameP a b := fun h => by unfold sameP; rw [decide_eq_false h]
  have yes : a = b → true = sameP a b := fun h => by unfold sameP; rw [decide_eq_true h]
  refine ⟨fun z => ∃ k : Nat, k ≤ a.length ∧ k ≤ b.length ∧ z.1 = (k : Int) ∧ a.take k = b.take k, fun z => a.length - z.1.toNat, ⟨0, Nat.zero_le _, Nat.zero_le _, rfl, rfl⟩, ?_⟩
  rintro i ⟨k, hk, hk2, hi, ht⟩
  simp only at hi
  subst hi
  rw [toNat_cast]
  refine ⟨fun g1 => ⟨fun g2 => no fun e => ?_, fun g2 => ⟨by omega, by omega, fun g3 => no fun e => ?_, fun g3 => ?_⟩⟩, fun g1 => ?_⟩
  · rw [e] at g1; omega
  · rw [e, beq_self_t164] at g3
    cases g3
  · have hw : IntKind.i64.wrap ((k : Int) + 1) = ((k + 1 : Nat) : Int) := wrap_succ (by omega)
    rw [hw]
    refine ⟨⟨k + 1, by omega, by omega, rfl, ?_⟩, by simp only [toNat_cast]; omega⟩
    have e : a.getD k ((0, 0, ()) : Pce) = b.getD k (0, 0, ()) := (beq_t164 _ _).1 (by simpa using g3)
    rw [take_one ((0, 0, ()) : Pce) (show k < a.length by omega), take_one ((0, 0, ()) : Pce) (show k < b.length by omega), ht, e]
  · have hke : k = a.length := by omega
    by_cases hl : (a.length : Int) = (b.length : Int)
    · rw [show ((a.length : Int) == (b.length : Int)) = true by simpa using hl]
      apply yes
      rw [hke, List.take_length, show a.length = b.length by omega, List.take_length] at ht
      exact ht
    · rw [show ((a.length : Int) == (b.length : Int)) = false by simpa using hl]
      exact no fun e => hl (by rw [e])
theorem p43 : vc43 := by
  unfold vc43
  simp only [eq_self, true_and, and_true, decide_eq_true_eq, decide_eq_false_iff_not]
  rintro ⟨l, ⟨⟩⟩
  simp only [maxLen_eq, d161]
  intro hl
  refine ⟨fun z => ∃ k : Nat, k ≤ l.length ∧ z.2.1 = (k : Int) ∧ z.1 = l.take k, fun z => l.length - z.2.1.toNat, ⟨0, Nat.zero_le _, rfl, rfl⟩, ?_⟩
  rintro r i ⟨k, hk, hi, hr⟩
  simp only at hi hr
  subst hi
  have hrl : r.length = k := by rw [hr, List.length_take]; omega
  refine ⟨fun h => ?_, fun h => by rw [hr, show k = l.length by omega, List.take_length]⟩
  have hlt : k < l.length := by omega
  have hw : IntKind.i64.wrap ((k : Int) + 1) = ((k + 1 : Nat) : Int) := wrap_succ (by omega)
  rw [toNat_cast, hw]
  simp only [toNat_cast, List.length_singleton]
  have Zf : ∃ k' : Nat, k' ≤ l.length ∧ ((k + 1 : Nat) : Int) = (k' : Int) ∧ r ++ [l.getD k (0, 0, ())] = l.take k' := ⟨k + 1, hlt, rfl, by rw [hr, take_one _ hlt]⟩
  have dec : l.length - (k + 1) < l.length - k := by omega
  (repeat' (first | apply And.intro | intro _))
  all_goals first
    | omega
    | exact Zf
    | exact dec
    | rfl
theorem p40 : vc40 := by
  unfold vc40
  simp only [eq_self, true_and, and_true, decide_eq_true_eq, decide_eq_false_iff_not]
  rintro ⟨w, ⟨⟩⟩
  simp only [maxLen_eq, d99]
  rintro ⟨h1, h2⟩
  have h3 : (items (topT (treeOf w))).length ≤ 100000 := by omega
  have el : ∀ r, r = piecesI (treeOf w) ↔ r = (items (topT (treeOf w))).map fun i => ((i.2.1, i.2.2.1.2.1, ()) : Pce) := fun r => Iff.rfl
  simp only [el]
  refine ⟨⟨h1, h3⟩, ?_⟩
  generalize items (topT (treeOf w)) = l at h2 ⊢
  refine ⟨fun z => ∃ k : Nat, k ≤ l.length ∧ z.2.1 = (k : Int) ∧ z.1 = (l.take k).map fun i => ((i.2.1, i.2.2.1.2.1, ()) : Pce), fun z => l.length - z.2.1.toNat, ⟨0, Nat.zero_le _, rfl, rfl⟩, ?_⟩
  rintro r i ⟨k, hk, hi, hr⟩
  simp only at hi hr
  subst hi
  have hrl : r.length = k := by rw [hr, List.length_map, List.length_take]; omega
  refine ⟨fun h => ?_, fun h => by rw [hr, show k = l.length by omega, List.take_length]⟩
  have hlt : k < l.length := by omega
  have hw : IntKind.i64.wrap ((k : Int) + 1) = ((k + 1 : Nat) : Int) := wrap_succ (by omega)
  rw [toNat_cast, hw]
  simp only [toNat_cast, List.length_singleton]
  have Zf : ∃ k' : Nat, k' ≤ l.length ∧ ((k + 1 : Nat) : Int) = (k' : Int) ∧ r ++ [((l.getD k zItm).2.1, (l.getD k zItm).2.2.1.2.1, ())] = (l.take k').map fun i => ((i.2.1, i.2.2.1.2.1, ()) : Pce) := ⟨k + 1, hlt, rfl, by rw [hr, take_one zItm hlt, List.map_append]; rfl⟩
  have dec : l.length - (k + 1) < l.length - k := by omega
  (repeat' (first | apply And.intro | intro _))
  all_goals first
    | omega
    | exact Zf
    | exact dec
    | rfl
def RowAt (t f0 : Int) (l : List Inl) (z : Int × List Itm × Int × Unit) : Prop := ∃ k : Nat, k ≤ l.length ∧ z.2.2.1 = (k : Int) ∧ rowF t f0 l = z.2.1 ++ rowF t z.1 (l.drop k) ∧ z.2.1.length ≤ 2 * k
theorem p30 : vc30 := by
  unfold vc30
  simp only [eq_self, true_and, and_true, decide_eq_true_eq, decide_eq_false_iff_not]
  rintro ⟨f0, t, l, ⟨⟩⟩
  simp only [maxLen_eq, dInl]
  rintro ⟨hl, hs⟩
  refine ⟨RowAt t f0 l, fun z => l.length - z.2.2.1.toNat, ⟨0, Nat.zero_le _, rfl, rfl, Nat.le_refl _⟩, ?_⟩
  rintro f out i ⟨k, hk, hi, hr, hlen⟩
  simp only at hi hr hlen
  subst hi
  refine ⟨fun h => ?_, fun h => ?_⟩
  · have hlt : k < l.length := by omega
    have hw : IntKind.i64.wrap ((k : Int) + 1) = ((k + 1 : Nat) : Int) := wrap_succ (by omega)
    rw [toNat_cast, hw]
    simp only [toNat_cast, List.length_singleton, List.length_append]
    rw [drop_cons zI0 hlt] at hr
    have hx := hs _ (getD_in zI0 hlt)
    generalize l.getD k zI0 = x at hr hx ⊢
    have e : rowF t f (x :: l.drop (k + 1)) = if x.2.1 > f then plainI (w64 (x.2.1 - f)) :: virtualI x :: rowF t x.2.1 (l.drop (k + 1)) else virtualI x :: rowF t f (l.drop (k + 1)) := rfl
    rw [e] at hr
    have hsz : (txt x).size ≤ 9223372036854775807 := by omega
    have y : x.2.1 > f → RowAt t f0 l (x.2.1, out ++ [plainI (IntKind.i64.wrap (x.2.1 - f))] ++ [virtualI x], ((k + 1 : Nat) : Int), ()) := fun g => ⟨k + 1, hlt, rfl, by
      rw [if_pos g] at hr
      rw [hr, List.append_assoc, List.append_assoc]
      rfl, by simp; omega⟩
    have n : ¬ x.2.1 > f → RowAt t f0 l (f, out ++ [virtualI x], ((k + 1 : Nat) : Int), ()) := fun g => ⟨k + 1, hlt, rfl, by
      rw [if_neg g] at hr
      rw [hr, List.append_assoc]
      rfl, by simp; omega⟩
    have dec : l.length - (k + 1) < l.length - k := by omega
    (repeat' (first | apply And.intro | intro _))
    all_goals first
      | omega
      | exact hsz
      | exact y (by assumption)
      | exact n (by assumption)
      | exact dec
      | rfl
  · have hke : k = l.length := by omega
    have e : rowF t f [] = if t > f then [plainI (w64 (t - f))] else [] := rfl
    rw [hke, List.drop_length, e] at hr
    simp only [List.length_singleton]
    have y : t > f → out ++ [plainI (IntKind.i64.wrap (t - f))] = rowF t f0 l := fun g => by
      rw [if_pos g] at hr
      exact hr.symm
    have n : ¬ t > f → out = rowF t f0 l := fun g => by
      rw [if_neg g, List.append_nil] at hr
      exact hr.symm
    (repeat' (first | apply And.intro | intro _))
    all_goals first
      | omega
      | exact y (by assumption)
      | exact n (by assumption)
theorem step_len (a : List Pce) (x : Spt) : (pceStep a x).length ≤ a.length + 1 ∧ pceStep a x ≠ [] := by
  unfold pceStep
  split
  · rename_i h
    refine ⟨by rw [List.length_set]; omega, fun e => h.1 ?_⟩
    have := congrArg List.length e
    rw [List.length_set] at this
    exact List.eq_nil_of_length_eq_zero this
  · exact ⟨by simp, by simp⟩
theorem p44 : vc44 := by
  unfold vc44
  simp only [eq_self, true_and, and_true, decide_eq_true_eq, decide_eq_false_iff_not, beq_iff_eq, beq_eq_false_iff_ne, ne_eq]
  rintro ⟨w, ⟨⟩⟩
  simp only [maxLen_eq, d164]
  intro hw
  have hb := spots_bd hw.1 hw.2.1 hw.2.2.2
  have el : ∀ r, r = refPieces w ↔ r = (spots w).foldl pceStep [] := fun r => Iff.rfl
  simp only [el]
  refine ⟨hw, ?_⟩
  generalize spots w = l at hb ⊢
  refine ⟨fun z => ∃ k : Nat, k ≤ l.length ∧ z.2.1 = (k : Int) ∧ z.1 = (l.take k).foldl pceStep [] ∧ z.1.length ≤ k ∧ (k ≠ 0 → z.1 ≠ []), fun z => l.length - z.2.1.toNat, ⟨0, Nat.zero_le _, rfl, rfl, Nat.le_refl _, fun h => absurd rfl h⟩, ?_⟩
  rintro a i ⟨k, hk, hi, ha, hal, hne⟩
  simp only at hi ha hal hne
  subst hi
  refine ⟨fun h => ?_, fun h => by rw [ha, show k = l.length by omega, List.take_length]⟩
  have hlt : k < l.length := by omega
  have hw : IntKind.i64.wrap ((k : Int) + 1) = ((k + 1 : Nat) : Int) := wrap_succ (by omega)
  rw [toNat_cast, hw]
  simp only [toNat_cast, List.length_singleton]
  have ht : (l.take (k + 1)).foldl pceStep [] = pceStep a (l.getD k (0, 0, ())) := by
    rw [take_one (0, 0, ()) hlt, List.foldl_append, ← ha]
    rfl
  obtain ⟨sl, sn⟩ := step_len a (l.getD k (0, 0, ()))
  have Zf : ∀ b, b = pceStep a (l.getD k (0, 0, ())) → ∃ k' : Nat, k' ≤ l.length ∧ ((k + 1 : Nat) : Int) = (k' : Int) ∧ b = (l.take k').foldl pceStep [] ∧ b.length ≤ k' ∧ (k' ≠ 0 → b ≠ []) := fun b hb => ⟨k + 1, hlt, rfl, by rw [ht, hb], by rw [hb]; omega, fun _ => by rw [hb]; exact sn⟩
  have dec : l.length - (k + 1) < l.length - k := by omega
  have new_ : ¬ (a ≠ [] ∧ (a.getD (a.length - 1) (0, 0, ())).1 = (l.getD k (0, 0, ())).2.1) → a ++ [((l.getD k (0, 0, ())).2.1, 1, ())] = pceStep a (l.getD k (0, 0, ())) := fun h => by unfold pceStep; rw [if_neg h]
  have old_ : a ≠ [] → (a.getD (a.length - 1) (0, 0, ())).1 = (l.getD k (0, 0, ())).2.1 → a.set (a.length - 1) ((a.getD (a.length - 1) (0, 0, ())).1, IntKind.i64.wrap ((a.getD (a.length - 1) (0, 0, ())).2.1 + 1), ()) = pceStep a (l.getD k (0, 0, ())) := fun h g => by unfold pceStep; rw [if_pos ⟨h, g⟩]; rfl
  refine ⟨⟨by omega, h⟩, fun g1 => ?_, fun g1 => ?_⟩
  · have hne := hne (by omega)
    have hpos : 0 < a.length := List.length_pos_iff.2 hne
    have hl1 : IntKind.i64.wrap ((a.length : Int) - 1) = ((a.length - 1 : Nat) : Int) := by rw [wrap_id (by omega) (by omega)]; omega
    rw [hl1, toNat_cast]
    (repeat' (first | apply And.intro | intro _))
    all_goals first
      | omega
      | exact Zf _ (old_ hne (by assumption))
      | exact Zf _ (new_ (fun hh => absurd hh.2 (by assumption)))
      | exact dec
      | rfl
  · have h0 : a = [] := List.eq_nil_of_length_eq_zero (by omega)
    (repeat' (first | apply And.intro | intro _))
    all_goals first
      | omega
      | exact Zf _ (new_ (fun hh => hh.1 h0))
      | exact dec
      | rfl
theorem p45 : vc45 := by
  unfold vc45
  simp only [eq_self, true_and, and_true, decide_eq_true_eq, decide_eq_false_iff_not]
  rintro ⟨h, n, ⟨⟩⟩
  simp only []
  rintro ⟨h1, h2, h3⟩
  have hn : IntKind.i64.wrap (n + 1) = n + 1 := wrap_id (by omega) (by omega)
  rw [hn]
  refine ⟨fun z => ∃ k : Nat, z.2.1 = ((k + 2 : Nat) : Int) ∧ (k + 2 ≤ h ∨ k = 0) ∧ z.1 = (4 : Int) ^ k ∧ (k = 0 ∨ z.1 ≤ n + 1) ∧ ∀ j, j < k → (4 : Int) ^ (j + 1) ≤ n + 1, fun z => (h - z.2.1).toNat, ⟨0, rfl, .inr rfl, rfl, .inl rfl, fun j hj => by omega⟩, ?_⟩
  rintro a i ⟨k, hi, hkh, ha, hle, hall⟩
  simp only at hi ha hle
  subst hi
  have hab : 0 ≤ a ∧ a ≤ 1000001 := by
    constructor
    · rw [ha]; exact Int.pow_nonneg (by decide)
    · rcases hle with e | e
      · rw [ha, e]; decide
      · omega
  have h4 : IntKind.i64.wrap (4 * a) = 4 * a := wrap_id (by omega) (by omega)
  have hp : 4 * a = (4 : Int) ^ (k + 1) := by rw [ha, Int.pow_succ]; omega
  have hw : IntKind.i64.wrap (((k + 2 : Nat) : Int) + 1) = ((k + 1 + 2 : Nat) : Int) := by rw [wrap_id (by omega) (by omega)]; omega
  rw [h4, hw]
  refine ⟨fun g1 => ⟨fun g2 => ?_, fun g2 => ⟨⟨k + 1, rfl, .inl (by omega), hp, .inr (by show 4 * a ≤ _; omega), fun j hj => ?_⟩, by simp only []; omega⟩⟩, fun g1 => ?_⟩
  · unfold highB
    have : ((List.range (h - 2).toNat).all fun j => decide ((4 : Int) ^ (j + 1) ≤ n + 1)) = false := by
      rw [List.all_eq_false]
      exact ⟨k, List.mem_range.2 (by omega), by rw [← hp]; simp; omega⟩
    rw [this]
    rfl
  · by_cases e : j = k
    · rw [e, ← hp]; omega
    · exact hall j (by omega)
  · have ha2 : ((List.range (h - 2).toNat).all fun j => decide ((4 : Int) ^ (j + 1) ≤ n + 1)) = true := by
      rw [List.all_eq_true]
      intro j hj
      have := List.mem_range.1 hj
      exact decide_eq_true (hall j (by omega))
    unfold highB
    rw [ha2]
    have e1 : (h == (0 : Int)) = decide (h = 0) := by
      rw [Bool.eq_iff_iff]; simp
    have e2 : (n == (0 : Int)) = decide (n = 0) := by
      rw [Bool.eq_iff_iff]; simp
    rw [e1, e2]
    simp only [Ty.beq]
    refine ⟨fun g2 => ?_, fun g2 => ?_⟩
    · rw [g2]
      simp
    · rw [g2]
      simp
theorem range_snoc (w : WSet) (k : Nat) : (List.range (k + 1)).flatMap (fun k : Nat => spotsAt w (k : Int)) = (List.range k).flatMap (fun k : Nat => spotsAt w (k : Int)) ++ spotsAt w (k : Int) := by
  rw [List.range_succ, List.flatMap_append]
  simp
theorem range_len {w : WSet} (h1 : w.2.1.length ≤ 60) (h2 : ∀ x ∈ w.2.1, (txt x).size ≤ 1000) : (k : Nat) → ((List.range k).flatMap (fun k : Nat => spotsAt w (k : Int))).length ≤ 60001 * k
  | 0 => Nat.zero_le _
  | k + 1 => by
    have ih := range_len h1 h2 k
    have h3 := spotsX_len (k := (k : Int)) h2
    have e : spotsAt w (k : Int) = spotsX (k : Int) w.2.1 ++ (if (k : Int) < w.1 then [((k : Int), 0, ())] else []) := rfl
    rw [range_snoc, List.length_append, e, List.length_append]
    split
    · rw [List.length_singleton]; omega
    · rw [List.length_nil]; omega
theorem spotsX_take {k : Int} {l : List Inl} {j : Nat} (h : j < l.length) : spotsX k (l.take (j + 1)) = spotsX k (l.take j) ++ (if (l.getD j zI0).2.1 = k then List.replicate (decodeL (txt (l.getD j zI0))).length (k, (l.getD j zI0).1, ()) else []) := by
  rw [take_one zI0 h]
  generalize l.getD j zI0 = x
  generalize l.take j = m
  induction m with
  | nil =>
    rw [List.nil_append, spotsX_cons]
    show _ ++ [] = [] ++ _
    rw [List.append_nil, List.nil_append]
    rfl
  | cons y m ih =>
    rw [List.cons_append, spotsX_cons, ih, spotsX_cons, List.append_assoc]
theorem p41 : vc41 := by
  unfold vc41
  simp only [eq_self, true_and, and_true, decide_eq_true_eq, decide_eq_false_iff_not, bne_iff_ne, bne_eq_false_iff_eq, ne_eq]
  rintro ⟨⟨n, l, e, ⟨⟩⟩, ⟨⟩⟩
  simp only [maxLen_eq, dInl]
  rintro ⟨h1, h2, h3, h4⟩
  simp only at h1 h2 h3 h4
  obtain ⟨w, hw⟩ : ∃ w : WSet, w = (n, l, e, ()) := ⟨_, rfl⟩
  have hwl : w.2.1 = l := by rw [hw]
  have hwn : w.1 = n := by rw [hw]
  rw [← hw]
  have el : ∀ r, r = spots w ↔ r = (List.range (n + 1).toNat).flatMap fun k : Nat => spotsAt w (k : Int) := fun r => by rw [hw]; exact Iff.rfl
  simp only [el]
  have rl := range_len (w := w) (by rw [hwl]; exact h1) (by rw [hwl]; exact h2)
  refine ⟨fun z => ∃ k : Nat, (k : Int) ≤ n + 1 ∧ z.2.1 = (k : Int) ∧ z.1 = (List.range k).flatMap fun k : Nat => spotsAt w (k : Int), fun z => (n + 1 - z.2.1).toNat, ⟨0, by omega, rfl, rfl⟩, ?_⟩
  rintro a i ⟨k, hk, hi, ha⟩
  simp only at hi ha
  subst hi
  have hal : a.length ≤ 60001 * k := by rw [ha]; exact rl k
  refine ⟨fun g1 => ?_, fun g1 => by rw [ha, show k = (n + 1).toNat by omega]⟩
  have hwk : IntKind.i64.wrap ((k : Int) + 1) = ((k + 1 : Nat) : Int) := wrap_succ (by omega)
  rw [hwk]
  have xl : ∀ j, (spotsX (k : Int) (l.take j)).length ≤ 60000 := fun j => by
    have := spotsX_len (k := (k : Int)) (l := l.take j) fun x hx => h2 x (List.mem_of_mem_take hx)
    rw [List.length_take] at this
    omega
  refine ⟨fun z => ∃ j : Nat, j ≤ l.length ∧ z.2.1 = (j : Int) ∧ z.1 = a ++ spotsX (k : Int) (l.take j), fun z => l.length - z.2.1.toNat, ⟨0, Nat.zero_le _, rfl, by show a = a ++ []; rw [List.append_nil]⟩, ?_⟩
  rintro b i ⟨j, hj, hi, hb⟩
  simp only at hi hb
  subst hi
  have hbl : b.length ≤ 60001 * k + 60000 := by rw [hb, List.length_append]; have := xl j; omega
  refine ⟨fun g2 => ?_, fun g2 => ?_⟩
  · have hlt : j < l.length := by omega
    have hwj : IntKind.i64.wrap ((j : Int) + 1) = ((j + 1 : Nat) : Int) := wrap_succ (by omega)
    rw [toNat_cast, hwj]
    have hx := h2 _ (getD_in zI0 hlt)
    have st := spotsX_take (k := (k : Int)) hlt
    generalize l.getD j zI0 = x at hx st ⊢
    have hdl := decL_len (txt x)
    have dec : l.length - (j + 1) < l.length - j := by omega
    refine ⟨⟨by omega, g2⟩, fun g3 => ⟨⟨j + 1, hlt, rfl, ?_⟩, by simp only [toNat_cast]; exact dec⟩, fun g3 => ⟨Nat.le_trans hx (by decide), ?_⟩⟩
    · rw [st, if_neg g3, List.append_nil]
      exact hb
    · rw [if_pos g3] at st
      show ∃ (Z : List Spt × Int × Unit → Prop), _
      refine ⟨fun z => ∃ m : Nat, m ≤ (decodeL (txt x)).length ∧ z.2.1 = (m : Int) ∧ z.1 = b ++ List.replicate m ((k : Int), x.1, ()), fun z => (decodeL (txt x)).length - z.2.1.toNat, ⟨0, Nat.zero_le _, rfl, by show b = b ++ []; rw [List.append_nil]⟩, ?_⟩
      rintro c i ⟨m, hm, hi, hc⟩
      simp only at hi hc
      subst hi
      have hcl : c.length ≤ 60001 * k + 61000 := by
        rw [hc, List.length_append, List.length_replicate]
        have : (txt x).size ≤ 1000 := hx
        omega
      refine ⟨fun g4 => ?_, fun g4 => ?_⟩
      · have g4 : (m : Int) < ((decodeL (txt x)).length : Int) := g4
        have hwm : IntKind.i64.wrap ((m : Int) + 1) = ((m + 1 : Nat) : Int) := wrap_succ (by omega)
        rw [hwm]
        simp only [List.length_singleton, toNat_cast]
        have Zf : ∃ m' : Nat, m' ≤ (decodeL (txt x)).length ∧ ((m + 1 : Nat) : Int) = (m' : Int) ∧ c ++ [((k : Int), x.1, ())] = b ++ List.replicate m' ((k : Int), x.1, ()) := ⟨m + 1, by omega, rfl, by rw [hc, List.replicate_succ', List.append_assoc]⟩
        have dm : (decodeL (txt x)).length - (m + 1) < (decodeL (txt x)).length - m := by omega
        (repeat' (first | apply And.intro | intro _))
        all_goals first
          | omega
          | exact Zf
          | exact dm
          | rfl
      · have g4 : ¬ (m : Int) < ((decodeL (txt x)).length : Int) := g4
        have hme : m = (decodeL (txt x)).length := by omega
        refine ⟨⟨j + 1, hlt, rfl, ?_⟩, by simp only [toNat_cast]; exact dec⟩
        show c = _
        rw [st, hc, hb, hme, List.append_assoc]
  · have hje : j = l.length := by omega
    rw [hje, List.take_length] at hb
    have hat : spotsAt w (k : Int) = spotsX (k : Int) l ++ (if (k : Int) < n then [((k : Int), 0, ())] else []) := by rw [hw]; rfl
    simp only [List.length_singleton]
    have y : (k : Int) < n → ∃ k' : Nat, (k' : Int) ≤ n + 1 ∧ ((k + 1 : Nat) : Int) = (k' : Int) ∧ b ++ [((k : Int), 0, ())] = (List.range k').flatMap fun k : Nat => spotsAt w (k : Int) := fun h => ⟨k + 1, by omega, rfl, by rw [range_snoc, hat, if_pos h, ← ha, hb, List.append_assoc]⟩
    have n_ : ¬ (k : Int) < n → ∃ k' : Nat, (k' : Int) ≤ n + 1 ∧ ((k + 1 : Nat) : Int) = (k' : Int) ∧ b = (List.range k').flatMap fun k : Nat => spotsAt w (k : Int) := fun h => ⟨k + 1, by omega, rfl, by rw [range_snoc, hat, if_neg h, ← ha, hb, List.append_nil]⟩
    have dk : (n + 1 - ((k + 1 : Nat) : Int)).toNat < (n + 1 - (k : Int)).toNat := by omega
    (repeat' (first | apply And.intro | intro _))
    all_goals first
      | omega
      | exact y (by assumption)
      | exact n_ (by assumption)
      | exact dk
theorem p14 : vc14 := by
  unfold vc14
  simp only [true_and, beq_iff_eq, beq_eq_false_iff_ne, ne_eq]
  rintro ⟨w, s, ⟨⟩⟩
  simp only [maxLen_eq]
  rintro ⟨h1, h2, h3⟩
  have hb := spots_bd h1.1 h1.2.1 h1.2.2.2
  have hp : (piecesI (treeOf w)).length = (items (topT (treeOf w))).length := by unfold piecesI; rw [List.length_map]
  have hr : (refPieces s).length ≤ 100000000 := by
    have : ∀ (l : List Spt) (o : List Pce), (l.foldl pceStep o).length ≤ o.length + l.length := by
      intro l
      induction l with
      | nil => intro o; exact Nat.le_refl _
      | cons x l ih =>
        intro o
        have := ih (pceStep o x)
        have := (step_len o x).1
        rw [List.foldl_cons, List.length_cons]
        omega
    have := this (spots s) []
    unfold refPieces
    simp at this
    omega
  have hh : heightOf (topT (treeOf w)) ≤ 1000 := by
    rcases h2 with e | ⟨h, hh, wf⟩
    · rw [e]; decide
    · rw [(wf_height wf).1]; omega
  have no : ∀ b, b = isW w s ↔ b = (w.isSome && decide ((sumOf (topT (treeOf w))).2.1.1 = s.1) && decide ((sumOf (topT (treeOf w))).2.1.2.1 = ((spots s).length : Int)) && sameP (piecesI (treeOf w)) (refPieces s) && highB (heightOf (topT (treeOf w))) ((items (topT (treeOf w))).length : Int)) := fun b => Iff.rfl
  simp only [no, hp]
  refine ⟨⟨h2, h3⟩, fun g1 => ⟨fun g2 => ⟨h1, fun g3 => ⟨by omega, h1, by omega, fun g4 => ⟨by omega, ?_⟩, fun g4 => ?_⟩, fun g3 => ?_⟩, fun g2 => ?_⟩, fun g1 => ?_⟩
  · rw [g1, decide_eq_true g2, decide_eq_true g3, g4]
    rfl
  · rw [g1, decide_eq_true g2, decide_eq_true g3, g4]
    rfl
  · rw [g1, decide_eq_true g2, decide_eq_false g3]
    rfl
  · rw [g1, decide_eq_false g2]
    rfl
  · rw [g1]
    rfl
end Go.Fr.Z14
namespace Go.Fr.Z14
open Go Go.Fr Go.Proofs
theorem take_app {α : Type} (a b : List α) (i : Int) (h : (a.length : Int) ≤ i) : (a ++ b).take i.toNat = a ++ b.take (i - a.length).toNat := by
  rw [List.take_append]
  congr 1
  · exact List.take_of_length_le (by omega)
  · congr 1; omega
theorem drop_app {α : Type} (a b : List α) (i : Int) (h : (a.length : Int) ≤ i) : (a ++ b).drop i.toNat = b.drop (i - a.length).toNat := by
  rw [List.drop_append]
  rw [List.drop_eq_nil_of_le (by omega), List.nil_append]
  congr 1; omega
theorem take_app_l {α : Type} (a b : List α) (i : Int) (h : i ≤ (a.length : Int)) : (a ++ b).take i.toNat = a.take i.toNat := by
  rw [List.take_append, show i.toNat - a.length = 0 by omega, List.take_zero, List.append_nil]
theorem drop_app_l {α : Type} (a b : List α) (i : Int) (h : i ≤ (a.length : Int)) : (a ++ b).drop i.toNat = a.drop i.toNat ++ b := by
  rw [List.drop_append, show i.toNat - a.length = 0 by omega, List.drop_zero]
theorem spK_at : (ks : List Nd) → (i : Nat) → (a : Int) → (∀ x ∈ ks, (sumOf x).1 = ((items x).length : Int)) → a ≤ 9223372036854775807 → (∀ x ∈ ks, (items x).length ≤ 100000) →
    (spK ks i a = none ∧ (ks = [] ∨ ((ks.flatMap items).length : Int) < a)) ∨
    (∃ j a', spK ks i a = some (i + j, a') ∧ j < ks.length ∧ a' ≤ ((items (ks.getD j .nil)).length : Int) ∧ (j = 0 ∨ 0 < a') ∧ a' ≤ a ∧ a = a' + (((ks.take j).flatMap items).length : Int))
  | [], i, a, _, _, _ => .inl ⟨rfl, .inl rfl⟩
  | k :: r, i, a, hs, ha, hl => by
    have hk := hs k (List.mem_cons_self ..)
    have hkl := hl k (List.mem_cons_self ..)
    have e : spK (k :: r) i a = if a ≤ (sumOf k).1 then some (i, a) else spK r (i + 1) (w64 (a - (sumOf k).1)) := rfl
    rw [e, hk]
    by_cases h : a ≤ ((items k).length : Int)
    · rw [if_pos h]
      exact .inr ⟨0, a, rfl, by simp, h, .inl rfl, Int.le_refl _, by simp⟩
    · rw [if_neg h, w64_id (by omega) (by omega)]
      rcases spK_at r (i + 1) (a - ((items k).length : Int)) (fun x hx => hs x (List.mem_cons_of_mem _ hx)) (by omega) (fun x hx => hl x (List.mem_cons_of_mem _ hx)) with ⟨h1, h2⟩ | ⟨j, a', h1, h2, h3, h4, h5, h6⟩
      · refine .inl ⟨h1, .inr ?_⟩
        rw [flat_cons, List.length_append]
        rcases h2 with rfl | h2
        · simp; omega
        · omega
      · refine .inr ⟨j + 1, a', by rw [h1, show i + 1 + j = i + (j + 1) by omega], by simp; omega, h3, ?_, by omega, ?_⟩
        · rcases h4 with rfl | h4
          · simp at h6; omega
          · exact .inr h4
        · rw [List.take_succ_cons, flat_cons, List.length_append]
          omega
theorem rowN_ok {h : Nat} {ks : List Nd} (h0 : 1 ≤ h) (hh : h ≤ 99) (h8 : ks.length ≤ 8) (hk : ∀ k ∈ ks, Wf h false k) : WfN (rowN ks) ∧ items (rowN ks) = ks.flatMap items := by
  unfold rowN
  by_cases e0 : ks.length = 0
  · rw [if_pos e0, List.eq_nil_of_length_eq_zero e0]
    exact ⟨.inl rfl, rfl⟩
  · rw [if_neg e0]
    by_cases e1 : ks.length = 1
    · rw [if_pos e1]
      match ks, e1 with
      | [x], _ =>
        exact ⟨.inr ⟨h, by omega, wf_top (hk x (List.mem_cons_self ..))⟩, by simp⟩
    · rw [if_neg e1]
      have w : Wf (h + 1) true (mkInner ks) := wf_inner h0 (by omega) (by simp; omega) h8 hk
      exact ⟨.inr ⟨h + 1, by omega, w⟩, items_inner w (by omega)⟩
theorem kid_split {ks : List Nd} {j : Nat} (h : j < ks.length) : ks = ks.take j ++ (ks.getD j .nil :: ks.drop (j + 1)) := by
  conv => lhs; rw [← List.take_append_drop j ks]
  rw [drop_cons .nil h]
theorem flat_len_le {ks : List Nd} {j : Nat} (h : j < ks.length) : ((ks.take j).flatMap items).length + (items (ks.getD j .nil)).length + ((ks.drop (j + 1)).flatMap items).length = (ks.flatMap items).length := by
  conv => rhs; rw [kid_split h]
  rw [List.flatMap_append, List.flatMap_cons, List.length_append, List.length_append]
  omega
theorem split_ok : (m h : Nat) → (top : Bool) → (n : Nd) → (a : Int) → h ≤ 100 → h ≤ m → Wf h top n → Fine (items n) → (items n).length ≤ 100000 → a ≤ 9223372036854775807 →
    WfN (splitF m n a).1 ∧ WfN (splitF m n a).2 ∧ items (splitF m n a).1 = (items n).take a.toNat ∧ items (splitF m n a).2 = (items n).drop a.toNat
  | 0, h, _, n, _, _, hm, e, _, _, _ => by
    have : h = 0 := by omega
    subst this
    exact e.elim
  | m + 1, 0, _, _, _, _, _, e, _, _, _ => e.elim
  | m + 1, h + 1, _, .nil, _, _, _, e, _, _, _ => e.elim
  | m + 1, h + 1, top, .leaf x, a, hh, hm, e, hf, hl, ha => by
    have h0 : h = 0 := e.1
    subst h0
    have e8 := e.2.2.1
    have wl : WfN (.leaf x) := .inr ⟨1, by omega, wf_any e⟩
    have es : splitF (m + 1) (.leaf x) a = if a ≤ 0 then (.nil, .leaf x) else if a ≥ (x.1.length : Int) then (.leaf x, .nil) else (mkLeaf (x.1.take a.toNat), mkLeaf (x.1.drop a.toNat)) := rfl
    rw [es, items_leaf]
    by_cases h1 : a ≤ 0
    · rw [if_pos h1, show a.toNat = 0 by omega]
      exact ⟨.inl rfl, wl, rfl, rfl⟩
    · rw [if_neg h1]
      by_cases h2 : a ≥ (x.1.length : Int)
      · rw [if_pos h2]
        refine ⟨wl, .inl rfl, ?_, ?_⟩
        · show x.1 = _; rw [List.take_of_length_le (by omega)]
        · show [] = _; rw [List.drop_eq_nil_of_le (by omega)]
      · rw [if_neg h2]
        refine ⟨.inr ⟨1, by omega, wf_leaf (by simp; omega) (by simp; omega)⟩, .inr ⟨1, by omega, wf_leaf (by simp; omega) (by simp; omega)⟩, rfl, rfl⟩
  | m + 1, h + 1, top, .inner ks b, a, hh, hm, e, hf, hl, ha => by
    have wt : WfN (.inner ks b) := .inr ⟨h + 1, hh, wf_any e⟩
    have ei := items_inner e (by omega)
    rw [ei] at hf hl ⊢
    obtain ⟨w1, w2, w3, w4, w5, w6⟩ := e
    have so : ∀ x ∈ ks, (sumOf x).1 = ((items x).length : Int) := fun x hx => (sum_wf h false x (by omega) (w6 x hx) (fine_mem hf hx) (Nat.le_trans (len_mem hx) hl)).1
    have es : splitF (m + 1) (.inner ks b) a = match spK ks 0 a with
      | none => (.inner ks b, .nil)
      | some q => (join (rowN (ks.take q.1)) (splitF m (ks.getD q.1 .nil) q.2).1, join (splitF m (ks.getD q.1 .nil) q.2).2 (rowN (ks.drop (q.1 + 1)))) := rfl
    rw [es]
    rcases spK_at ks 0 a so ha (fun x hx => Nat.le_trans (len_mem hx) hl) with ⟨h1, h2⟩ | ⟨j, a', h1, h2, h3, h4, h5, h6⟩
    · rw [h1]
      have hlen : ((ks.flatMap items).length : Int) < a := by
        rcases h2 with rfl | h2
        · simp at w2; split at w2 <;> omega
        · exact h2
      refine ⟨wt, .inl rfl, ?_, ?_⟩
      · show items (.inner ks b) = _
        rw [ei, List.take_of_length_le (by omega)]
      · show [] = _; rw [List.drop_eq_nil_of_le (by omega)]
    · rw [h1]
      simp only [Nat.zero_add]
      have mem := getD_in (.nil : Nd) h2
      have fl := flat_len_le h2
      obtain ⟨i1, i2, i3, i4⟩ := split_ok m h false _ a' (by omega) (by omega) (w6 _ mem) (fine_mem hf mem) (Nat.le_trans (len_mem mem) hl) (by omega)
      obtain ⟨r1, r2⟩ := rowN_ok (ks := ks.take j) w1 (by omega) (by rw [List.length_take]; omega) (fun k hk => w6 k (List.mem_of_mem_take hk))
      obtain ⟨r3, r4⟩ := rowN_ok (ks := ks.drop (j + 1)) w1 (by omega) (by rw [List.length_drop]; omega) (fun k hk => w6 k (List.mem_of_mem_drop hk))
      obtain ⟨j1, j2⟩ := join_ok r1 i1 (by rw [r2, i3, List.length_take]; omega)
      obtain ⟨j3, j4⟩ := join_ok i2 r3 (by rw [r4, i4, List.length_drop]; omega)
      refine ⟨j1, j3, ?_, ?_⟩
      · rw [j2, r2, i3]
        conv => rhs; rw [kid_split h2]
        rw [List.flatMap_append, List.flatMap_cons]
        by_cases hn : j = 0
        · subst hn
          have e1 : a = a' := by
            have : a = a' + 0 := by simpa using h6
            omega
          rw [e1, List.take_zero, List.flatMap_nil, List.nil_append, List.nil_append, take_app_l _ _ _ h3]
        · rw [take_app _ _ _ (by omega), take_app_l _ _ _ (by omega)]
          congr 2
          omega
      · rw [j4, r4, i4]
        conv => rhs; rw [kid_split h2]
        rw [List.flatMap_append, List.flatMap_cons]
        by_cases hn : j = 0
        · subst hn
          have e1 : a = a' := by
            have : a = a' + 0 := by simpa using h6
            omega
          rw [e1, List.take_zero, List.flatMap_nil, List.nil_append, drop_app_l _ _ _ h3]
        · rw [drop_app _ _ _ (by omega), drop_app_l _ _ _ (by omega)]
          congr 2
          omega
theorem splitN_ok {n : Nd} {a : Int} (hw : WfN n) (hf : Fine (items n)) (hl : (items n).length ≤ 100000) (ha : a ≤ 9223372036854775807) :
    WfN (splitN n a).1 ∧ WfN (splitN n a).2 ∧ items (splitN n a).1 = (items n).take a.toNat ∧ items (splitN n a).2 = (items n).drop a.toNat := by
  unfold splitN
  rcases hw with rfl | ⟨h, h1, w⟩
  · exact ⟨.inl rfl, .inl rfl, by simp [heightOf, splitF, items_nil], by simp [heightOf, splitF, items_nil]⟩
  · rw [(wf_height w).1]
    exact split_ok _ h true n a h1 (Nat.le_refl _) w hf hl ha
theorem fine_take {l : List Itm} (h : Fine l) (k : Nat) : Fine (l.take k) := fun i hi => h i (List.mem_of_mem_take hi)
theorem fine_drop {l : List Itm} (h : Fine l) (k : Nat) : Fine (l.drop k) := fun i hi => h i (List.mem_of_mem_drop hi)
theorem replN_ok {n mid : Nd} {from_ to : Int} (hw : WfN n) (hf : Fine (items n)) (hl : (items n).length ≤ 100000) (wm : WfN mid) (hm : (items mid).length ≤ 100000) (h0 : 0 ≤ from_) (h1 : from_ ≤ to) (h2 : to ≤ 9000000000000000000) :
    WfN (splitN n from_).1 ∧ WfN (splitN n from_).2 ∧ items (splitN n from_).2 = (items n).drop from_.toNat ∧ WfN (join (splitN n from_).1 mid) ∧ WfN (splitN (splitN n from_).2 (w64 (to - from_))).2 ∧
    WfN (replN n mid from_ to) ∧ items (replN n mid from_ to) = (items n).take from_.toNat ++ items mid ++ (items n).drop to.toNat := by
  obtain ⟨a1, a2, a3, a4⟩ := splitN_ok (a := from_) hw hf hl (by omega)
  have hd : ((items n).drop from_.toNat).length ≤ 100000 := by rw [List.length_drop]; omega
  obtain ⟨b1, b2, b3, b4⟩ := splitN_ok (n := (splitN n from_).2) (a := w64 (to - from_)) a2 (by rw [a4]; exact fine_drop hf _) (by rw [a4]; exact hd) (by rw [w64_id (by omega) (by omega)]; omega)
  obtain ⟨j1, j2⟩ := join_ok a1 wm (by rw [a3, List.length_take]; omega)
  obtain ⟨j3, j4⟩ := join_ok j1 b2 (by rw [j2, a3, b4, a4, List.length_append, List.length_take, List.length_drop, List.length_drop]; omega)
  refine ⟨a1, a2, a4, j1, b2, j3, ?_⟩
  show items (join (join (splitN n from_).1 mid) (splitN (splitN n from_).2 (w64 (to - from_))).2) = _
  rw [j4, j2, a3, b4, a4, List.drop_drop, w64_id (by omega) (by omega)]
  congr 2
  omega
theorem newT_ok {l : List Itm} (hl : l.length ≤ 30000) (h : ∀ i ∈ l, checkI i = 0) : newT l = (some (buildT l, ()), 0, ()) := by
  unfold newT
  rw [if_neg (by omega), if_pos]
  rw [List.all_eq_true]
  intro i hi
  exact decide_eq_true (h i hi)
theorem newT_zero {l : List Itm} (h : (newT l).2.1 = 0) : l.length ≤ 30000 ∧ (∀ i ∈ l, checkI i = 0) ∧ newT l = (some (buildT l, ()), 0, ()) := by
  unfold newT at h ⊢
  by_cases h1 : l.length > 30000
  · rw [if_pos h1] at h; cases h
  · rw [if_neg h1] at h ⊢
    by_cases h2 : (l.all fun x => decide (checkI x = 0)) = true
    · rw [if_pos h2]
      rw [List.all_eq_true] at h2
      exact ⟨by omega, fun i hi => of_decide_eq_true (h2 i hi), rfl⟩
    · rw [if_neg h2] at h; cases h
end Go.Fr.Z14
namespace Go.Fr.Z14
open Go Go.Fr Go.Proofs
set_option maxRecDepth 100000
def hs79 : List (Nat × Nat × Hint) := [(1050009, 4, ⟨[.slot 1050028 t3, .rowC 3 0 950000150 t99 99], [1050010, 1050026, 1050027, 3], [3], []⟩),
  (1050009, 11, ⟨[.slot 1050044 t3, .rowC 3 0 950000150 t99 99], [1050010, 1050042, 1050043, 3], [3], []⟩),
  (2100052, 4, ⟨[.slot 2100071 t3, .rowC 3 0 950000150 t99 99], [2100053, 2100069, 2100070, 1050010, 1050042, 1050043, 1050044, 3], [1050015, 3], []⟩),
  (2100052, 11, ⟨[.slot 2100087 t3, .rowC 3 0 950000150 t99 99], [2100053, 2100085, 2100086, 1050010, 1050042, 1050043, 1050044, 3], [1050015, 3], []⟩),
  (3150095, 4, ⟨[.slot 3150114 t3, .rowC 3 0 950000150 t99 99], [3150096, 3150112, 3150113, 2100053, 2100085, 2100086, 2100087, 1050010, 1050042, 1050043, 1050044, 3], [2100058, 1050015, 3], []⟩),
  (3150095, 11, ⟨[.slot 3150130 t3, .rowC 3 0 950000150 t99 99], [3150096, 3150128, 3150129, 2100053, 2100085, 2100086, 2100087, 1050010, 1050042, 1050043, 1050044, 3], [2100058, 1050015, 3], []⟩)]
def nm79 : List Nat := [3000000023]
noncomputable def E79 : Env := env tab [(72, cTop)] [(105, Tryz.f105), (104, Tryz.f104)] gl hs79 nm79
def vc79 : Prop :=
 ∀ (x : Option (Nd × Unit) × Unit),
 let y :=  (List.getD (optL (NT.asInner (topT x.fst))) (0 : Nat)  (([], (0, zS, ())) : List Nd × Nx)).fst;
 let y_1 := (List.getD (optL (NT.asLeaf (topT x.fst))) (0 : Nat) (([], zS, ()) : Lf)).fst;
 let y_2 := topT x.fst;
 let y_3 := Option.isSome (NT.asInner y_2);
 let y_4 := Option.isSome (NT.asLeaf y_2);
 let y_5 := (↑(List.length y_1) : Int);
 let y_6 := (↑(List.length y) : Int);
 (y_2 = (NT.nil : Nd) ∨ ∃ (h : Nat), h ≤ (3 : Nat) ∧ Wf h true y_2) ∧ List.length (items y_2) ≤ (100000 : Nat) →
 True ∧
 (y_4 = true →
 y_4 = true ∧
 (((0 : Int) = (0 : Int) ∧ True ∧ y_1 = y_1 ∧ y_5 = y_5 ∧ True) ∧ True ∧ True ∧ True) ∧
 ∃ (Z : Int × List Itm × Unit → Prop),
 ∃ (μ : Int × List Itm × Unit → Nat),
 Z ((0 : Int), [], ()) ∧
 ∀ (a : Int),
 let y := [List.getD y_1 (Int.toNat a) (Ty.dflt t99)];
 let y_7 := IntKind.wrap IntKind.i64 (a + (1 : Int));
 ∀ (a_1 : List Itm),
 let y_8 := (y_7, a_1 ++ y, ());
 let y_9 := (a, a_1, ());
 Z y_9 →
 (decide (a < y_5) = true →
 ((0 : Int) ≤ a ∧ a < y_5) ∧
 (List.length a_1 + List.length y) * (64 : Nat) ≤ (140737488355328 : Nat) ∧
 List.length a_1 + List.length y ≤ maxLen ∧
 ((y_7 = y_7 ∧ True ∧ y_1 = y_1 ∧ y_5 = y_5 ∧ True) ∧
 True ∧ a_1 ++ y = a_1 ++ y ∧ True) ∧
 Z y_8 ∧ μ y_8 < μ y_9) ∧
 (decide (a < y_5) = false → a_1 = items y_2)) ∧
 (y_4 = false →
 (y_3 = true →
 Option.isSome (NT.asInner y_2) = true ∧
 (((0 : Int) = (0 : Int) ∧ True ∧ y = y ∧ y_6 = y_6 ∧ True) ∧ True ∧ True ∧ True) ∧
 ∃ (Z : Int × List Itm × Unit → Prop),
 ∃ (μ : Int × List Itm × Unit → Nat),
 Z ((0 : Int), [], ()) ∧
 ∀ (a : Int),
 let y_7 :=  (List.getD  (optL  (NT.asInner  (List.getD y (Int.toNat a)  (NT.nil : Nd))))  (0 : Nat)  (([], (0, zS, ())) : List Nd × Nx)).fst;
 let y_8 :=  (List.getD  (optL  (NT.asLeaf  (List.getD y (Int.toNat a)  (NT.nil : Nd))))  (0 : Nat) (([], zS, ()) : Lf)).fst;
 let y_9 :=  List.getD y (Int.toNat a)  (NT.nil : Nd);
 let y_10 := IntKind.wrap IntKind.i64 (a + (1 : Int));
 let y_11 := Option.isSome (NT.asInner y_9);
 let y_12 := Option.isSome (NT.asLeaf y_9);
 let y_13 := (↑(List.length y_8) : Int);
 let y_14 := (↑(List.length y_7) : Int);
 ∀ (a_1 : List Itm),
 let y_15 := (a_1, ());
 let y_16 := (a, y_15);
 let y_17 := (y_10, y_15);
 Z y_16 →
 (decide (a < y_6) = true →
 ((0 : Int) ≤ a ∧ a < y_6) ∧
 (y_12 = true →
 y_12 = true ∧
 (((0 : Int) = (0 : Int) ∧
 True ∧
 y_8 = y_8 ∧ y_13 = y_13 ∧ True ∧ y = y ∧ y_6 = y_6 ∧ a = a ∧ True) ∧
 True ∧ a_1 = a_1 ∧ True) ∧
 ∃ (Z_1 :
 Int ×
 List Itm ×
 Unit →
 Prop),
 ∃ (μ_1 :
 Int ×
 List
 Itm ×
 Unit →
 Nat),
 Z_1 ((0 : Int), y_15) ∧
 ∀ (a_5 : Int),
 let y_18 := [List.getD y_8 (Int.toNat a_5) (Ty.dflt t99)];
 let y_19 := IntKind.wrap IntKind.i64 (a_5 + (1 : Int));
 ∀
 (a_6 :
 List
 Itm),
 let y_20 := (a_6, ());
 let y_21 := (y_19, a_6 ++ y_18, ());
 let y_22 := (a_5, y_20);
 let y_23 := (y_10, y_20);
 Z_1 y_22 →
 (decide (a_5 < y_13) = true →
 ((0 : Int) ≤ a_5 ∧ a_5 < y_13) ∧
 (List.length a_6 + List.length y_18) * (64 : Nat) ≤
 (140737488355328 : Nat) ∧
 List.length a_6 + List.length y_18 ≤ maxLen ∧
 ((y_19 = y_19 ∧
 True ∧
 y_8 = y_8 ∧
 y_13 = y_13 ∧
 True ∧ y = y ∧ y_6 = y_6 ∧ a = a ∧ True) ∧
 True ∧ a_6 ++ y_18 = a_6 ++ y_18 ∧ True) ∧
 Z_1 y_21 ∧ μ_1 y_21 < μ_1 y_22) ∧
 (decide (a_5 < y_13) = false →
 ((y_10 = y_10 ∧ True ∧ y = y ∧ y_6 = y_6 ∧ True) ∧
 True ∧ a_6 = a_6 ∧ True) ∧
 Z y_23 ∧ μ y_23 < μ y_16)) ∧
 (y_12 = false →
 (y_11 = true →
 Option.isSome (NT.asInner y_9) = true ∧
 (((0 : Int) = (0 : Int) ∧
 True ∧
 y_7 = y_7 ∧
 y_14 = y_14 ∧ True ∧ y = y ∧ y_6 = y_6 ∧ a = a ∧ True) ∧
 True ∧ a_1 = a_1 ∧ True) ∧
 ∃ (Z_1 :
 Int ×
 List
 Itm ×
 Unit →
 Prop),
 ∃ (μ_1 :
 Int ×
 List
 Itm ×
 Unit →
 Nat),
 Z_1 ((0 : Int), y_15) ∧
 ∀ (a_6 : Int),
 let y_18 :=  (List.getD  (optL  (NT.asInner  (List.getD y_7 (Int.toNat a_6)  (NT.nil : Nd))))  (0 : Nat)  (([], (0, zS, ())) : List Nd × Nx)).fst;
 let y_19 :=  (List.getD  (optL  (NT.asLeaf  (List.getD y_7 (Int.toNat a_6)  (NT.nil : Nd))))  (0 : Nat) (([], zS, ()) : Lf)).fst;
 let y_20 :=  List.getD y_7 (Int.toNat a_6)  (NT.nil : Nd);
 let y_21 := IntKind.wrap IntKind.i64 (a_6 + (1 : Int));
 let y_22 := Option.isSome (NT.asInner y_20);
 let y_23 := Option.isSome (NT.asLeaf y_20);
 let y_24 := (↑(List.length y_19) : Int);
 let y_25 := (↑(List.length y_18) : Int);
 ∀
 (a_7 :
 List
 Itm),
 let y_26 := (a_7, ());
 let y_27 := (a_6, y_26);
 let y_28 := (y_21, y_26);
 let y_29 := (y_10, y_26);
 Z_1 y_27 →
 (decide (a_6 < y_14) = true →
 ((0 : Int) ≤ a_6 ∧ a_6 < y_14) ∧
 (y_23 = true →
 y_23 = true ∧
 (((0 : Int) = (0 : Int) ∧
 True ∧
 y_19 = y_19 ∧
 y_24 = y_24 ∧
 True ∧
 y_7 = y_7 ∧
 y_14 = y_14 ∧
 a_6 = a_6 ∧
 True ∧
 y = y ∧
 y_6 = y_6 ∧
 a = a ∧ True) ∧
 True ∧ a_7 = a_7 ∧ True) ∧
 ∃ (Z :
 Int ×
 List
 Itm ×
 Unit →
 Prop),
 ∃ (μ :
 Int ×
 List
 Itm ×
 Unit →
 Nat),
 Z ((0 : Int), y_26) ∧
 ∀ (a_11 : Int),
 let y_30 :=  [List.getD y_19 (Int.toNat a_11)  (Ty.dflt t99)];
 let y_31 :=  IntKind.wrap IntKind.i64  (a_11 + (1 : Int));
 ∀
 (a_12 :
 List
 Itm),
 let y_32 := (a_12, ());
 let y_33 :=  (y_31, a_12 ++ y_30, ());
 let y_34 := (a_11, y_32);
 let y_35 := (y_21, y_32);
 Z y_34 →
 (decide (a_11 < y_24) = true →
 ((0 : Int) ≤ a_11 ∧
 a_11 < y_24) ∧
 (List.length a_12 +
 List.length y_30) *
 (64 : Nat) ≤
 (140737488355328 :
 Nat) ∧
 List.length a_12 +
 List.length y_30 ≤
 maxLen ∧
 ((y_31 = y_31 ∧
 True ∧
 y_19 = y_19 ∧
 y_24 = y_24 ∧
 True ∧
 y_7 =
 y_7 ∧
 y_14 =
 y_14 ∧
 a_6 =
 a_6 ∧
 True ∧
 y =
 y ∧
 y_6 =
 y_6 ∧
 a =
 a ∧
 True) ∧
 True ∧
 a_12 ++ y_30 =
 a_12 ++ y_30 ∧
 True) ∧
 Z y_33 ∧
 μ y_33 < μ y_34) ∧
 (decide (a_11 < y_24) = false →
 ((y_21 = y_21 ∧
 True ∧
 y_7 = y_7 ∧
 y_14 = y_14 ∧
 True ∧
 y = y ∧
 y_6 = y_6 ∧
 a = a ∧
 True) ∧
 True ∧
 a_12 = a_12 ∧ True) ∧
 Z_1 y_35 ∧
 μ_1 y_35 < μ_1 y_27)) ∧
 (y_23 = false →
 (y_22 = true →
 Option.isSome (NT.asInner y_20) = true ∧
 (((0 : Int) = (0 : Int) ∧
 True ∧
 y_18 = y_18 ∧
 y_25 = y_25 ∧
 True ∧
 y_7 = y_7 ∧
 y_14 = y_14 ∧
 a_6 = a_6 ∧
 True ∧
 y = y ∧
 y_6 = y_6 ∧
 a = a ∧ True) ∧
 True ∧ a_7 = a_7 ∧ True) ∧
 ∃ (Z :
 Int ×
 List
 Itm ×
 Unit →
 Prop),
 ∃ (μ :
 Int ×
 List
 Itm ×
 Unit →
 Nat),
 Z ((0 : Int), y_26) ∧
 ∀ (a_12 : Int),
 let y_30 :=  List.getD y_18 (Int.toNat a_12)  (NT.nil : Nd);
 let y_31 :=  IntKind.wrap IntKind.i64  (a_12 + (1 : Int));
 let y_32 :=  Option.isSome (NT.asInner y_30);
 let y_33 :=  Option.isSome (NT.asLeaf y_30);
 ∀
 (a_13 :
 List
 Itm),
 let y_34 := (a_13, ());
 let y_35 := (y_21, y_34);
 let y_36 := (a_12, y_34);
 let y_37 := (y_31, y_34);
 Z y_36 →
 (decide (a_12 < y_25) = true →
 ((0 : Int) ≤ a_12 ∧
 a_12 < y_25) ∧
 (y_33 = true →
 y_33 = true ∧
 False) ∧
 (y_33 = false →
 (y_32 = true →
 Option.isSome
 (NT.asInner
 y_30) =
 true ∧
 False) ∧
 (y_32 = false →
 ((y_31 = y_31 ∧
 True ∧
 y_18 =
 y_18 ∧
 y_25 =
 y_25 ∧
 True ∧
 y_7 =
 y_7 ∧
 y_14 =
 y_14 ∧
 a_6 =
 a_6 ∧
 True ∧
 y =
 y ∧
 y_6 =
 y_6 ∧
 a =
 a ∧
 True) ∧
 True ∧
 a_13 =
 a_13 ∧
 True) ∧
 Z y_37 ∧
 μ y_37 <
 μ
 y_36))) ∧
 (decide (a_12 < y_25) =
 false →
 ((y_21 = y_21 ∧
 True ∧
 y_7 = y_7 ∧
 y_14 = y_14 ∧
 True ∧
 y = y ∧
 y_6 =
 y_6 ∧
 a = a ∧
 True) ∧
 True ∧
 a_13 = a_13 ∧
 True) ∧
 Z_1 y_35 ∧
 μ_1 y_35 <
 μ_1 y_27)) ∧
 (y_22 = false →
 ((y_21 = y_21 ∧
 True ∧
 y_7 = y_7 ∧
 y_14 = y_14 ∧
 True ∧
 y = y ∧
 y_6 = y_6 ∧ a = a ∧ True) ∧
 True ∧ a_7 = a_7 ∧ True) ∧
 Z_1 y_28 ∧ μ_1 y_28 < μ_1 y_27))) ∧
 (decide (a_6 < y_14) = false →
 ((y_10 = y_10 ∧ True ∧ y = y ∧ y_6 = y_6 ∧ True) ∧
 True ∧ a_7 = a_7 ∧ True) ∧
 Z y_29 ∧ μ y_29 < μ y_16)) ∧
 (y_11 = false →
 ((y_10 = y_10 ∧ True ∧ y = y ∧ y_6 = y_6 ∧ True) ∧
 True ∧ a_1 = a_1 ∧ True) ∧
 Z y_17 ∧ μ y_17 < μ y_16))) ∧
 (decide (a < y_6) = false → a_1 = items y_2)) ∧
 (y_3 = false → [] = items y_2))
theorem vcEq79 : fnVC E79 Tryz.f79 (bodyOf Tryz.f79) cItems = vc79 := by kernel_rfl
end Go.Fr.Z14
namespace Go.Fr.Z14
open Go Go.Fr Go.Proofs
theorem leafLoop (l r0 : List Itm) (K : List Itm → Prop) (hs : r0.length + l.length ≤ 1000000) (hK : K (r0 ++ l)) :
    ∃ (Z : Int × List Itm × Unit → Prop), ∃ (μ : Int × List Itm × Unit → Nat), Z (0, r0, ()) ∧ ∀ (i : Int) (r : List Itm), Z (i, r, ()) →
      (i < (l.length : Int) → (0 ≤ i ∧ i < (l.length : Int)) ∧ (r.length + [l.getD i.toNat zItm].length) * 64 ≤ 140737488355328 ∧ r.length + [l.getD i.toNat zItm].length ≤ 9223372036854775807 ∧
        Z (IntKind.i64.wrap (i + 1), r ++ [l.getD i.toNat zItm], ()) ∧ μ (IntKind.i64.wrap (i + 1), r ++ [l.getD i.toNat zItm], ()) < μ (i, r, ())) ∧
      (¬ i < (l.length : Int) → K r) := by
  refine ⟨fun z => ∃ k : Nat, k ≤ l.length ∧ z.1 = (k : Int) ∧ z.2.1 = r0 ++ l.take k, fun z => l.length - z.1.toNat, ⟨0, Nat.zero_le _, rfl, by simp⟩, ?_⟩
  rintro i r ⟨k, hk, hi, hr⟩
  simp only at hi hr
  subst hi
  have hrl : r.length = r0.length + k := by rw [hr, List.length_append, List.length_take]; omega
  refine ⟨fun h => ?_, fun h => ?_⟩
  · have hlt : k < l.length := by omega
    have hw : IntKind.i64.wrap ((k : Int) + 1) = ((k + 1 : Nat) : Int) := wrap_succ (by omega)
    rw [toNat_cast, hw]
    simp only [toNat_cast, List.length_singleton]
    exact ⟨⟨by omega, h⟩, by omega, by omega, ⟨k + 1, hlt, rfl, by rw [hr, take_one zItm hlt, List.append_assoc]⟩, by omega⟩
  · have hke : k = l.length := by omega
    rw [hr, hke, List.take_length]
    exact hK
def KidsAt (ks : List Nd) (r0 : List Itm) (z : Int × List Itm × Unit) : Prop := ∃ k : Nat, k ≤ ks.length ∧ z.1 = (k : Int) ∧ z.2.1 = r0 ++ (ks.take k).flatMap items
theorem kids_step {ks : List Nd} {r0 r : List Itm} {k : Nat} (h : k < ks.length) (hr : r = r0 ++ (ks.take k).flatMap items) (hl : ks.length ≤ 100000) :
    KidsAt ks r0 (IntKind.i64.wrap ((k : Int) + 1), r ++ items (ks.getD k .nil), ()) ∧ ks.length - (IntKind.i64.wrap ((k : Int) + 1)).toNat < ks.length - ((k : Int)).toNat := by
  have hw : IntKind.i64.wrap ((k : Int) + 1) = ((k + 1 : Nat) : Int) := wrap_succ (by omega)
  rw [hw, toNat_cast, toNat_cast]
  refine ⟨⟨k + 1, h, rfl, ?_⟩, by omega⟩
  show r ++ items (ks.getD k .nil) = _
  rw [hr, take_one .nil h, List.flatMap_append]
  simp
theorem kids_part {ks : List Nd} {k : Nat} (h : k < ks.length) : ((ks.take k).flatMap items).length + (items (ks.getD k .nil)).length ≤ (ks.flatMap items).length := by
  have hs : ks = ks.take k ++ (ks.getD k .nil :: ks.drop (k + 1)) := by
    conv => lhs; rw [← List.take_append_drop k ks]
    rw [drop_cons .nil h]
  conv => rhs; rw [hs]
  rw [List.flatMap_append, List.flatMap_cons, List.length_append, List.length_append]
  omega
theorem inner_of {n : Nd} (h : (NT.asInner n).isSome = true) : ∃ b, n = .inner (kidsOf n) b := by
  cases n with
  | nil => cases h
  | leaf a => cases h
  | inner ks b => exact ⟨b, rfl⟩
theorem leaf_of {n : Nd} (h : (NT.asLeaf n).isSome = true) : items n = itemsOf n := by
  cases n with
  | nil => cases h
  | leaf a => rfl
  | inner ks b => cases h
theorem nil_of {n : Nd} (h1 : (NT.asLeaf n).isSome = false) (h2 : (NT.asInner n).isSome = false) : n = .nil := by
  cases n with
  | nil => rfl
  | leaf a => cases h1
  | inner ks b => cases h2
theorem kids_wf {h : Nat} {top : Bool} {n : Nd} (e : Wf h top n) (hh : h ≤ 100) (hi : (NT.asInner n).isSome = true) : 2 ≤ h ∧ (kidsOf n).length ≤ 8 ∧ items n = (kidsOf n).flatMap items ∧ ∀ k : Nat, k < (kidsOf n).length → Wf (h - 1) false ((kidsOf n).getD k .nil) := by
  obtain ⟨b, hb⟩ := inner_of hi
  rw [hb] at e
  cases h with
  | zero => exact e.elim
  | succ h =>
    have hi2 := items_inner e (by omega)
    obtain ⟨w1, w2, w3, w4, w5, w6⟩ := e
    exact ⟨by omega, w3, by rw [← hi2, ← hb], fun k hk => w6 _ (getD_in .nil hk)⟩
theorem p79 : vc79 := by
  unfold vc79
  simp only [eq_self, true_and, and_true, decide_eq_true_eq, decide_eq_false_iff_not]
  rintro ⟨t, ⟨⟩⟩
  simp only [maxLen_eq, ka', la', d99]
  rintro ⟨hw, hl⟩
  generalize topT t = n at hw hl ⊢
  refine ⟨fun h => ⟨h, ?_⟩, fun h1 => ⟨fun h2 => ⟨h2, ?_⟩, fun h2 => ?_⟩⟩
  · rw [leaf_of h] at hl ⊢
    exact leafLoop _ _ (fun r => r = itemsOf n) (by simp; omega) (by simp)
  · obtain ⟨h, hh, w⟩ := hw.resolve_left (fun e => by rw [e] at h2; cases h2)
    obtain ⟨w1, w2, w3, w4⟩ := kids_wf w (by omega) h2
    rw [w3] at hl ⊢
    refine ⟨KidsAt (kidsOf n) [], fun z => (kidsOf n).length - z.1.toNat, ⟨0, Nat.zero_le _, rfl, rfl⟩, ?_⟩
    rintro i r ⟨k, hk, hi, hr⟩
    simp only at hi hr
    subst hi
    refine ⟨fun hlt => ?_, fun hge => by rw [hr, show k = (kidsOf n).length by omega, List.take_length, List.nil_append]⟩
    have hlt' : k < (kidsOf n).length := by omega
    have hp := kids_part hlt'
    obtain ⟨st1, st2⟩ := kids_step hlt' hr (by omega)
    have wk := w4 k hlt'
    have hrl : r.length = (((kidsOf n).take k).flatMap items).length := by rw [hr]; simp
    rw [toNat_cast]
    refine ⟨⟨by omega, hlt⟩, ?_⟩
    generalize hm : (kidsOf n).getD k .nil = m at wk hp st1 ⊢
    refine ⟨fun g1 => ⟨g1, ?_⟩, fun g1 => ⟨fun g2 => ⟨g2, ?_⟩, fun g2 => absurd (nil_of g1 g2) (wf_height wk).2.2⟩⟩
    · rw [leaf_of g1] at st1 hp
      exact leafLoop _ _ (fun r' => KidsAt (kidsOf n) [] (IntKind.i64.wrap ((k : Int) + 1), r', ()) ∧ (kidsOf n).length - (IntKind.i64.wrap ((k : Int) + 1)).toNat < (kidsOf n).length - ((k : Int)).toNat) (by omega) ⟨st1, st2⟩
    · obtain ⟨v1, v2, v3, v4⟩ := kids_wf wk (by omega) g2
      rw [v3] at st1 hp
      refine ⟨KidsAt (kidsOf m) r, fun z => (kidsOf m).length - z.1.toNat, ⟨0, Nat.zero_le _, rfl, by simp⟩, ?_⟩
      rintro i2 r2 ⟨k2, hk2, hi2, hr2⟩
      simp only at hi2 hr2
      subst hi2
      refine ⟨fun hlt2 => ?_, fun hge => by rw [hr2, show k2 = (kidsOf m).length by omega, List.take_length]; exact ⟨st1, st2⟩⟩
      have hlt2' : k2 < (kidsOf m).length := by omega
      have hp2 := kids_part hlt2'
      obtain ⟨su1, su2⟩ := kids_step hlt2' hr2 (by omega)
      have wk2 := v4 k2 hlt2'
      have hrl2 : r2.length = r.length + (((kidsOf m).take k2).flatMap items).length := by rw [hr2, List.length_append]
      rw [toNat_cast]
      refine ⟨⟨by omega, hlt2⟩, ?_⟩
      generalize hm2 : (kidsOf m).getD k2 .nil = m2 at wk2 hp2 su1 ⊢
      refine ⟨fun g3 => ⟨g3, ?_⟩, fun g3 => ⟨fun g4 => ?_, fun g4 => absurd (nil_of g3 g4) (wf_height wk2).2.2⟩⟩
      · rw [leaf_of g3] at su1 hp2
        exact leafLoop _ _ (fun r' => KidsAt (kidsOf m) r (IntKind.i64.wrap ((k2 : Int) + 1), r', ()) ∧ (kidsOf m).length - (IntKind.i64.wrap ((k2 : Int) + 1)).toNat < (kidsOf m).length - ((k2 : Int)).toNat) (by omega) ⟨su1, su2⟩
      · have := (kids_wf wk2 (by omega) g4).1
        omega
  · rw [nil_of h1 h2]
    rfl
end Go.Fr.Z14
namespace Go.Fr.Z14
open Go Go.Fr Go.Proofs
theorem fine_of {l : List Itm} (h : ∀ x ∈ l, checkI x = 0) : Fine l := fun i hi => by
  have := h i hi
  unfold checkI at this
  split at this
  · rename_i g
    simp [withinN] at g
    show 0 ≤ i.2.2.1.1 ∧ i.2.2.1.1 ≤ 1099511627776 ∧ 0 ≤ i.2.2.1.2.1 ∧ i.2.2.1.2.1 ≤ 1099511627776
    omega
  · cases this
theorem wf_inner_of {h : Nat} {top : Bool} {n : Nd} (e : Wf h top n) (hi : (NT.asInner n).isSome = true) : ∃ h' b, h = h' + 1 ∧ n = .inner (kidsOf n) b ∧ 1 ≤ h' ∧ (kidsOf n).length ≤ 8 ∧ ∀ k ∈ kidsOf n, Wf h' false k := by
  obtain ⟨b, hb⟩ := inner_of hi
  rw [hb] at e
  cases h with
  | zero => exact e.elim
  | succ h =>
    obtain ⟨w1, w2, w3, w4, w5, w6⟩ := e
    exact ⟨h, b, rfl, hb, w1, w3, w6⟩
theorem not_inner {n : Nd} (h : (NT.asInner n).isSome = false) (hn : NT.isNil n = false) : ∃ a, n = .leaf a := by
  cases n with
  | nil => cases hn
  | leaf a => exact ⟨a, rfl⟩
  | inner ks b => cases h
theorem findF_leaf (dim v bias : Int) (m : Nat) (a : Lf) (s : Sm) (vis : Int) : findF dim v bias (m + 1) (.leaf a) s vis = (findL dim v bias a.1 s, w64 (vis + 1)) := rfl
theorem findF_inner (dim v bias : Int) (m : Nat) (ks : List Nd) (b : Nx) (s : Sm) (vis : Int) : findF dim v bias (m + 1) (.inner ks b) s vis = findF dim v bias m (findK dim v bias ks s).2 (findK dim v bias ks s).1 (w64 (vis + 1)) := rfl
theorem findF_none (dim v bias : Int) (m : Nat) (s : Sm) (vis : Int) : findF dim v bias m .nil s vis = (s, vis) := by cases m <;> rfl
theorem findL_yes {dim v bias : Int} {i : Itm} {r : List Itm} {s : Sm} (h : reach v bias (sizeD (addS s (ofI i)) dim) = true) : findL dim v bias (i :: r) s = s := by
  unfold findL; rw [if_pos h]
theorem findL_no {dim v bias : Int} {i : Itm} {r : List Itm} {s : Sm} (h : reach v bias (sizeD (addS s (ofI i)) dim) = false) : findL dim v bias (i :: r) s = findL dim v bias r (addS s (ofI i)) := by
  conv => lhs; unfold findL
  rw [if_neg (by rw [h]; decide)]
theorem findK_yes {dim v bias : Int} {k : Nd} {r : List Nd} {s : Sm} (h : reach v bias (sizeD (addS s (sumOf k)) dim) = true) : findK dim v bias (k :: r) s = (s, k) := by
  unfold findK; rw [if_pos h]
theorem findK_no {dim v bias : Int} {k : Nd} {r : List Nd} {s : Sm} (h : reach v bias (sizeD (addS s (sumOf k)) dim) = false) : findK dim v bias (k :: r) s = findK dim v bias r (addS s (sumOf k)) := by
  conv => lhs; unfold findK
  rw [if_neg (by rw [h]; decide)]
theorem reach_gt {v bias e : Int} (h : e > v) : reach v bias e = true := by unfold reach; simp; omega
theorem reach_eq {v bias e : Int} (h : bias = 0) (h2 : e = v) : reach v bias e = true := by unfold reach; simp; omega
theorem reach_no {v bias e : Int} (h : ¬ e > v) (h2 : ¬ (bias = 0 ∧ e = v)) : reach v bias e = false := by unfold reach; simp; omega
theorem itemsOf_leaf (a : Lf) : itemsOf (.leaf a : Nd) = a.1 := rfl
theorem kidsOf_inner (ks : List Nd) (b : Nx) : kidsOf (.inner ks b : Nd) = ks := rfl
def LeafAt (dim v bias : Int) (l : List Itm) (s0 : Sm) (z : Int × Int × Int × Int × Int × Int × Int × Unit) : Prop :=
  ∃ k : Nat, k ≤ l.length ∧ z.1 = (k : Int) ∧ findL dim v bias (l.drop k) (z.2.1, (z.2.2.1, z.2.2.2.1, z.2.2.2.2.1, ()), z.2.2.2.2.2.1, z.2.2.2.2.2.2.1, ()) = findL dim v bias l s0
def NodeAt (dim v bias : Int) (ks : List Nd) (s0 : Sm) (z : Nd × Int × Int × Int × Int × Int × Int × Int × Unit) : Prop :=
  z.1 = .nil ∧ ∃ k : Nat, k ≤ ks.length ∧ z.2.1 = (k : Int) ∧ findK dim v bias (ks.drop k) (z.2.2.1, (z.2.2.2.1, z.2.2.2.2.1, z.2.2.2.2.2.1, ()), z.2.2.2.2.2.2.1, z.2.2.2.2.2.2.2.1, ()) = findK dim v bias ks s0
def SeekAt (dim v bias : Int) (t : Nd) (z : Nd × Int × Int × Int × Int × Int × Int × Int × Unit) : Prop :=
  ∃ m h : Nat, h ≤ m ∧ m ≤ 101 ∧ (z.1 = .nil ∨ Wf h true z.1) ∧ findF dim v bias m z.1 (z.2.1, (z.2.2.1, z.2.2.2.1, z.2.2.2.2.1, ()), z.2.2.2.2.2.1, z.2.2.2.2.2.2.1, ()) z.2.2.2.2.2.2.2.1 = findF dim v bias 101 t zS 0
theorem seek_high {n : Nd} {h : Nat} {b : Bool} (w : n = .nil ∨ Wf h b n) : (heightOf n).toNat ≤ h := by
  rcases w with rfl | w
  · exact Nat.zero_le _
  · rw [(wf_height w).1]; omega
theorem p36 : vc36 := by
  unfold vc36
  simp only [eq_self, true_and, and_true, decide_eq_true_eq, decide_eq_false_iff_not, beq_iff_eq, beq_eq_false_iff_ne, bne_iff_ne, bne_eq_false_iff_eq, Bool.not_eq_true', Bool.not_eq_false', ne_eq]
  rintro ⟨t, dim, v, bias, ⟨⟩⟩
  simp only [ka', la', d99]
  intro hw
  have bad : (dim < 0 ∨ dim > 3 ∨ v < 0 ∨ v > sizeD (sumOf (topT t)) dim ∨ (bias ≠ 0 ∧ bias ≠ 1)) → ((0, (0, (0, 0, 0, ()), 0, 0, ()), 0, ()), 1, ()) = findT t dim v bias := fun h => by
    unfold findT; rw [if_pos h]; rfl
  refine ⟨fun h => bad (.inl h), fun g0 => ⟨fun h => bad (.inr (.inl h)), fun g1 => ⟨fun h => bad (.inr (.inr (.inl h))), fun g2 => ⟨by omega, fun h => bad (.inr (.inr (.inr (.inl h)))), fun g3 => ?_⟩⟩⟩⟩
  refine ⟨fun b0 => ⟨fun b1 => bad (.inr (.inr (.inr (.inr ⟨b0, b1⟩)))), fun b1 => ?_⟩, fun b0 => ?_⟩
  all_goals
    have hb : bias = 0 ∨ bias = 1 := by omega
    clear bad
    have res : ∀ (s : Sm) (vis : Int), (s, vis) = findF dim v bias 101 (topT t) zS 0 → ((s.1, s, vis, ()), 0, ()) = findT t dim v bias := fun s vis h => by
      unfold findT
      rw [if_neg (by omega)]
      unfold findP
      rw [← h]
    generalize topT t = n0 at hw res ⊢
    generalize findT t dim v bias = R at res ⊢
    have hz : ∃ h : Nat, h ≤ 101 ∧ (n0 = .nil ∨ Wf h true n0) := by
      rcases hw with e | ⟨h, h1, w⟩
      · exact ⟨0, by omega, .inl e⟩
      · exact ⟨h, by omega, .inr w⟩
    obtain ⟨h00, hz1, hz2⟩ := hz
    refine ⟨SeekAt dim v bias n0, fun z => (heightOf z.1).toNat, ⟨101, h00, hz1, Nat.le_refl _, hz2, rfl⟩, ?_⟩
    clear hz1 hz2 hw
    rintro a n b c d e f vis ⟨m, h, hm, hm2, hw, hf⟩
    simp only at hw hf
    refine ⟨fun hn => ⟨fun hi => ⟨fun hl => ⟨hl, ?_⟩, fun hl => absurd (nil_of hl hi) (isNil_f.1 hn)⟩, fun hi => ⟨hi, ?_⟩⟩, fun hn => ⟨fun hl => ?_, fun hl => ?_⟩⟩
    · obtain ⟨lf, rfl⟩ := not_inner hi hn
      have w := hw.resolve_left (isNil_f.1 hn)
      obtain ⟨m, rfl⟩ : ∃ m', m = m' + 1 := ⟨m - 1, by have := (wf_height w).2.1; omega⟩
      rw [findF_leaf] at hf
      rw [itemsOf_leaf]
      have hl8 : lf.1.length ≤ 8 := by
        cases h with
        | zero => exact w.elim
        | succ h => exact w.2.2.1
      generalize lf.1 = l at hf hl8 ⊢
      clear w hw hm hm2
      refine ⟨LeafAt dim v bias l (n, (b, c, d, ()), e, f, ()), fun z => l.length - z.1.toNat, ⟨0, Nat.zero_le _, rfl, rfl⟩, ?_⟩
      rintro i n' b' c' d' e' f' ⟨k, hk, hi2, hs⟩
      simp only at hi2 hs
      subst hi2
      refine ⟨fun g => ?_, fun g => ?_⟩
      · have hlt : k < l.length := by omega
        have hw64 : IntKind.i64.wrap ((k : Int) + 1) = ((k + 1 : Nat) : Int) := wrap_succ (by omega)
        rw [toNat_cast, hw64]
        rw [drop_cons zItm hlt] at hs
        generalize l.getD k zItm = it at hs ⊢
        have stop : reach v bias (sizeD (addS (n', (b', c', d', ()), e', f', ()) (ofI it)) dim) = true → ((n', (n', (b', c', d', ()), e', f', ()), IntKind.i64.wrap (vis + 1), ()), 0, ()) = R := fun hr => by
          rw [findL_yes hr] at hs
          rw [← hs] at hf
          exact res _ _ hf
        have go : reach v bias (sizeD (addS (n', (b', c', d', ()), e', f', ()) (ofI it)) dim) = false → ∀ s : Sm, s = addS (n', (b', c', d', ()), e', f', ()) (ofI it) → LeafAt dim v bias l (n, (b, c, d, ()), e, f, ()) (((k + 1 : Nat) : Int), s.1, s.2.1.1, s.2.1.2.1, s.2.1.2.2.1, s.2.2) := fun hr s hs2 => ⟨k + 1, hlt, rfl, by
          rw [findL_no hr, ← hs2] at hs
          exact hs⟩
        have dec : ∀ x : Int × Int × Int × Int × Int × Int × Unit, l.length - (((k + 1 : Nat) : Int)).toNat < l.length - ((k : Int)).toNat := fun _ => by simp only [toNat_cast]; omega
        refine ⟨⟨by omega, g⟩, by omega, fun g4 => stop (reach_gt g4), fun g4 => ⟨fun g5 => ⟨fun g6 => stop (reach_eq g5 g6), fun g6 => ⟨go (reach_no g4 (fun hh => g6 hh.2)) _ rfl, dec (0, 0, 0, 0, 0, 0, ())⟩⟩, fun g5 => ⟨go (reach_no g4 (fun hh => g5 hh.1)) _ rfl, dec (0, 0, 0, 0, 0, 0, ())⟩⟩⟩
      · have hke : k = l.length := by omega
        rw [hke, List.drop_length] at hs
        have hs : ((n', (b', c', d', ()), e', f', ()) : Sm) = findL dim v bias l (n, (b, c, d, ()), e, f, ()) := hs
        rw [← hs] at hf
        exact res _ _ hf
    · have w := hw.resolve_left (isNil_f.1 hn)
      obtain ⟨h', bx, rfl, ea, h1, k8, wk⟩ := wf_inner_of w hi
      obtain ⟨m, rfl⟩ : ∃ m', m = m' + 1 := ⟨m - 1, by omega⟩
      rw [ea, findF_inner] at hf
      have ha : heightOf a = ((h' + 1 : Nat) : Int) := (wf_height w).1
      generalize kidsOf a = ks at hf k8 wk ⊢
      refine ⟨NodeAt dim v bias ks (n, (b, c, d, ()), e, f, ()), fun z => ks.length - z.2.1.toNat, ⟨rfl, 0, Nat.zero_le _, rfl, rfl⟩, ?_⟩
      rintro kn i n' b' c' d' e' f' ⟨hkn, k, hk, hi2, hs⟩
      simp only at hkn hi2 hs
      subst hi2 hkn
      refine ⟨fun g => ?_, fun g => ?_⟩
      · have hlt : k < ks.length := by omega
        have hw64 : IntKind.i64.wrap ((k : Int) + 1) = ((k + 1 : Nat) : Int) := wrap_succ (by omega)
        rw [toNat_cast, hw64]
        rw [drop_cons .nil hlt] at hs
        have wkk := wk _ (getD_in .nil hlt)
        generalize ks.getD k .nil = it at hs wkk ⊢
        have stop : reach v bias (sizeD (addS (n', (b', c', d', ()), e', f', ()) (sumOf it)) dim) = true → SeekAt dim v bias n0 (it, n', b', c', d', e', f', IntKind.i64.wrap (vis + 1), ()) := fun hr => ⟨m, h', by omega, by omega, .inr (wf_top wkk), by
          rw [findK_yes hr] at hs
          rw [← hs] at hf
          exact hf⟩
        have low : (heightOf it).toNat < (heightOf a).toNat := by
          rw [ha, (wf_height wkk).1]; omega
        have go : reach v bias (sizeD (addS (n', (b', c', d', ()), e', f', ()) (sumOf it)) dim) = false → ∀ s : Sm, s = addS (n', (b', c', d', ()), e', f', ()) (sumOf it) → NodeAt dim v bias ks (n, (b, c, d, ()), e, f, ()) (.nil, ((k + 1 : Nat) : Int), s.1, s.2.1.1, s.2.1.2.1, s.2.1.2.2.1, s.2.2) := fun hr s hs2 => ⟨rfl, k + 1, hlt, rfl, by
          rw [findK_no hr, ← hs2] at hs
          exact hs⟩
        have dec : ks.length - (((k + 1 : Nat) : Int)).toNat < ks.length - ((k : Int)).toNat := by simp only [toNat_cast]; omega
        refine ⟨⟨by omega, g⟩, by omega, fun g4 => ⟨stop (reach_gt g4), low⟩, fun g4 => ⟨fun g5 => ⟨fun g6 => ⟨stop (reach_eq g5 g6), low⟩, fun g6 => ⟨go (reach_no g4 (fun hh => g6 hh.2)) _ rfl, dec⟩⟩, fun g5 => ⟨go (reach_no g4 (fun hh => g5 hh.1)) _ rfl, dec⟩⟩⟩
      · have hke : k = ks.length := by omega
        rw [hke, List.drop_length] at hs
        have hs : (((n', (b', c', d', ()), e', f', ()), .nil) : Sm × Nd) = findK dim v bias ks (n, (b, c, d, ()), e, f, ()) := hs
        rw [← hs] at hf
        exact ⟨⟨m, 0, Nat.zero_le _, by omega, .inl rfl, hf⟩, by show (heightOf (NT.nil : Nd)).toNat < (heightOf a).toNat; rw [ha]; show 0 < _; omega⟩
    · rw [isNil_t.1 hn] at hl; cases hl
    · rw [isNil_t.1 hn, findF_none] at hf
      exact res (n, (b, c, d, ()), e, f, ()) vis hf
theorem flat_at {ks : List Nd} {k j : Nat} (h : k < ks.length) (hj : j < (items (ks.getD k .nil)).length) : (ks.flatMap items).getD (((ks.take k).flatMap items).length + j) zItm = (items (ks.getD k .nil)).getD j zItm := by
  have hs : ks = ks.take k ++ (ks.getD k .nil :: ks.drop (k + 1)) := by
    conv => lhs; rw [← List.take_append_drop k ks]
    rw [drop_cons .nil h]
  generalize ks.getD k .nil = x at hs hj ⊢
  generalize ks.take k = a at hs ⊢
  rw [hs, List.flatMap_append, List.flatMap_cons, getD_app_r _ (by omega), getD_app_l _ (by omega)]
  congr 1
  omega
def DownAt (it : Itm) (z : Int × Nd × Unit) : Prop := ∃ h : Nat, h ≤ 100 ∧ Wf h true z.2.1 ∧ 0 ≤ z.1 ∧ z.1 < ((items z.2.1).length : Int) ∧ Fine (items z.2.1) ∧ (items z.2.1).length ≤ 100000 ∧ (items z.2.1).getD z.1.toNat zItm = it
theorem p37 : vc37 := by
  unfold vc37
  simp only [eq_self, true_and, and_true, decide_eq_true_eq, decide_eq_false_iff_not, Bool.not_eq_true', Bool.not_eq_false']
  rintro ⟨t, i0, ⟨⟩⟩
  simp only [ka', la', d99]
  rintro ⟨hw, hl, hc⟩
  have hf := fine_of hc
  have so := sum_top hw hf hl
  rw [so.1]
  have bad : (i0 < 0 ∨ i0 ≥ ((items (topT t)).length : Int)) → ((0, 0, (0, 0, 0, ()), 0, ByteArray.empty, ()), 1, ()) = atT t i0 := fun h => by
    unfold atT; rw [if_pos h]; rfl
  refine ⟨fun h => bad (.inl h), fun g0 => ⟨fun h => bad (.inr h), fun g1 => ?_⟩⟩
  have res : ∀ it, it = (items (topT t)).getD i0.toNat zItm → (it, 0, ()) = atT t i0 := fun it h => by
    unfold atT; rw [if_neg (by omega), h]
  have hz : DownAt ((items (topT t)).getD i0.toNat zItm) (i0, topT t, ()) := by
    rcases hw with e | ⟨h, h1, w⟩
    · exfalso
      rw [e, items_nil] at g1
      simp at g1
      omega
    · exact ⟨h, h1, w, by omega, by show i0 < ((items (topT t)).length : Int); omega, hf, hl, rfl⟩
  generalize (items (topT t)).getD i0.toNat zItm = it0 at hz res
  refine ⟨DownAt it0, fun z => (heightOf z.2.1).toNat, hz, ?_⟩
  rintro i n ⟨h, h1, w, i1, i2, nf, nl, hit⟩
  simp only at w i1 i2 nf nl hit
  have hn : NT.isNil n = false := isNil_f.2 (wf_height w).2.2
  refine ⟨fun hi => ?_, fun hi => ⟨hi, ?_⟩⟩
  · obtain ⟨a, rfl⟩ := not_inner hi hn
    rw [items_leaf] at i2 hit
    rw [itemsOf_leaf]
    exact ⟨rfl, rfl, ⟨i1, i2⟩, res _ hit⟩
  · obtain ⟨h', bx, rfl, ea, p1, k8, wk⟩ := wf_inner_of w hi
    have ei : items n = (kidsOf n).flatMap items := by
      rw [ea] at w ⊢
      exact items_inner w (by omega)
    have hh : heightOf n = ((h' + 1 : Nat) : Int) := (wf_height w).1
    rw [ei] at i2 nf nl hit
    generalize kidsOf n = ks at i2 nf nl hit k8 wk ⊢
    refine ⟨fun z => z.2.1 = n ∧ ∃ k : Nat, k ≤ ks.length ∧ z.2.2.1 = (k : Int) ∧ 0 ≤ z.1 ∧ z.1 + (((ks.take k).flatMap items).length : Int) = i, fun z => ks.length - z.2.2.1.toNat, ⟨rfl, 0, Nat.zero_le _, rfl, i1, by show i + 0 = i; omega⟩, ?_⟩
    rintro j n' m ⟨hn', k, hk, hm, j0, hj⟩
    simp only at hn' hm j0 hj
    subst hn' hm
    refine ⟨fun g => ?_, fun g => ?_⟩
    · have hlt : k < ks.length := by omega
      have hw64 : IntKind.i64.wrap ((k : Int) + 1) = ((k + 1 : Nat) : Int) := wrap_succ (by omega)
      rw [toNat_cast, hw64]
      have mem := getD_in (.nil : Nd) hlt
      have wkk := wk _ mem
      have sk := sum_wf h' false _ (by omega) wkk (fine_mem nf mem) (Nat.le_trans (len_mem mem) nl)
      have hlm := len_mem mem
      have tk : ((ks.take (k + 1)).flatMap items).length = ((ks.take k).flatMap items).length + (items (ks.getD k .nil)).length := by
        rw [take_one .nil hlt, List.flatMap_append, List.length_append]
        simp
      have fa := fun j => flat_at (j := j) hlt
      have fm := fine_mem nf mem
      rw [sk.1]
      generalize ks.getD k .nil = kid at wkk hlm tk fa fm ⊢
      have hws : IntKind.i64.wrap (j - ((items kid).length : Int)) = j - ((items kid).length : Int) := wrap_id (by omega) (by omega)
      rw [hws]
      refine ⟨⟨by omega, g⟩, fun g4 => ⟨⟨rfl, k + 1, hlt, rfl, by simp only []; omega, by simp only []; omega⟩, by simp only [toNat_cast]; omega⟩, fun g4 => ⟨⟨h', by omega, wf_top wkk, j0, by show j < ((items kid).length : Int); omega, fm, by show (items kid).length ≤ _; omega, ?_⟩, ?_⟩⟩
      · show (items kid).getD j.toNat zItm = it0
        rw [← fa j.toNat (by omega), ← hit]
        congr 1
        omega
      · show (heightOf kid).toNat < (heightOf n').toNat
        rw [hh, (wf_height wkk).1]; omega
    · exfalso
      have hke : k = ks.length := by omega
      rw [hke, List.take_length] at hj
      omega
end Go.Fr.Z14
namespace Go.Fr.Z14
open Go Go.Fr Go.Proofs
set_option maxRecDepth 100000
def hs12 : List (Nat × Nat × Hint) := []
def nm12 : List Nat := [3000000023]
noncomputable def E12 : Env := env tab [(33, cSizes), (34, cFits), (31, cLen), (35, cTreeOf), (36, cFind), (37, cAt), (39, cBetween), (30, cRow), (38, cReplace)] [] gl hs12 nm12
def vc12 : Prop :=
 ∀
 (x :
 Option (Option (Nd × Unit) × Unit) ×
 (Int × Int × Unit) ×
 (Int × Int × Unit) × Option (Int × List Inl × Unit) × Unit),
 let y :=  replT (treeOf x.fst) (findT (treeOf x.fst) (0 : Int) x.snd.fst.fst (0 : Int)).fst.fst  (if  (findT (treeOf x.fst) (0 : Int) x.snd.fst.fst (0 : Int)).fst.fst <  IntKind.wrap IntKind.i64  ((findT (treeOf x.fst) (0 : Int) x.snd.fst.snd.fst (1 : Int)).fst.fst + (1 : Int)) then  IntKind.wrap IntKind.i64 ((findT (treeOf x.fst) (0 : Int) x.snd.fst.snd.fst (1 : Int)).fst.fst + (1 : Int))  else (findT (treeOf x.fst) (0 : Int) x.snd.fst.fst (0 : Int)).fst.fst)  (rowF  (IntKind.wrap IntKind.i64  (x.snd.snd.fst.snd.fst +  IntKind.wrap IntKind.i64  (IntKind.wrap IntKind.i64  ((findT (treeOf x.fst) (0 : Int) x.snd.fst.snd.fst (1 : Int)).fst.snd.fst.snd.fst.fst +  (atT (treeOf x.fst)  (findT (treeOf x.fst) (0 : Int) x.snd.fst.snd.fst  (1 : Int)).fst.fst).fst.snd.snd.fst.fst) -  x.snd.fst.snd.fst)))  (findT (treeOf x.fst) (0 : Int) x.snd.fst.fst (0 : Int)).fst.snd.fst.snd.fst.fst  (List.filter (inI x.snd.snd.fst.fst x.snd.snd.fst.snd.fst) (allI x.snd.snd.snd.fst)));
 let y_1 :=  replT (treeOf x.fst) (findT (treeOf x.fst) (0 : Int) x.snd.fst.fst (0 : Int)).fst.fst  (if  (findT (treeOf x.fst) (0 : Int) x.snd.fst.fst (0 : Int)).fst.fst <  (findT (treeOf x.fst) (0 : Int) x.snd.fst.snd.fst (1 : Int)).fst.fst then  (findT (treeOf x.fst) (0 : Int) x.snd.fst.snd.fst (1 : Int)).fst.fst  else (findT (treeOf x.fst) (0 : Int) x.snd.fst.fst (0 : Int)).fst.fst)  (rowF x.snd.snd.fst.snd.fst (findT (treeOf x.fst) (0 : Int) x.snd.fst.fst (0 : Int)).fst.snd.fst.snd.fst.fst  (List.filter (inI x.snd.snd.fst.fst x.snd.snd.fst.snd.fst) (allI x.snd.snd.snd.fst)));
 let y_2 := x.snd.snd;
 let y_3 := x.snd.fst;
 let y_4 := x.fst;
 let y_5 := (sumOf (topT (treeOf y_4))).snd.fst.fst;
 let y_6 := atT (treeOf y_4) (findT (treeOf y_4) (0 : Int) y_3.snd.fst (1 : Int)).fst.fst;
 let y_7 := (findT (treeOf y_4) (0 : Int) y_3.fst (0 : Int)).fst.snd.fst.snd.fst.fst;
 let y_8 := !fitsW y_3 y_5;
 let y_9 := y_3.snd.fst;
 let y_10 := y_6.snd.fst == (0 : Int);
 let y_11 := updW y_4 y_3 y_2.fst y_2.snd.fst;
 let y_12 := List.filter (inI y_2.fst.fst y_2.fst.snd.fst) (allI y_2.snd.fst);
 let y_13 := IntKind.wrap IntKind.i64 (y_5 - y_9) != IntKind.wrap IntKind.i64 (lenI y_2.snd.fst - y_2.fst.snd.fst);
 let y_14 := y_2.snd.fst;
 let y_15 := y_3.fst != y_2.fst.fst;
 let y_16 := y_2.fst;
 let y_17 := y_1.snd.fst != (0 : Int);
 let y_18 := y.snd.fst != (0 : Int);
 okTre (treeOf y_4) ∧ List.length (allI y_14) ≤ (10000 : Nat) ∧ shortL (allI y_14) →
 True ∧
 True ∧
 (y_8 = true → (none, (1 : Int), ()) = y_11) ∧
 (y_8 = false →
 True ∧
 True ∧
 ((!fitsW y_16 (lenI y_14)) = true → (none, (1 : Int), ()) = y_11) ∧
 ((!fitsW y_16 (lenI y_14)) = false →
 (y_15 = true → (none, (1 : Int), ()) = y_11) ∧
 (y_15 = false →
 True ∧
 (y_13 = true → (none, (1 : Int), ()) = y_11) ∧
 (y_13 = false →
 True ∧
 WfN (topT (treeOf y_4)) ∧
 True ∧
 WfN (topT (treeOf y_4)) ∧
 ((0 : Int) ≤ (0 : Int) ∧ (0 : Int) < (↑(3 : Nat) : Int)) ∧
 True ∧
 okTre (treeOf y_4) ∧
 (y_10 = true →
 ((0 : Int) ≤ (0 : Int) ∧ (0 : Int) < (↑(3 : Nat) : Int)) ∧
 ((0 : Int) ≤ (0 : Int) ∧ (0 : Int) < (↑(3 : Nat) : Int)) ∧
 True ∧
 List.length (allI y_14) ≤ (10000 : Nat) ∧
 (List.length y_12 ≤ (10000 : Nat) ∧ shortL y_12) ∧
 (okTre (treeOf y_4) ∧
 List.length
 (rowF
 (IntKind.wrap IntKind.i64
 (y_16.snd.fst +
 IntKind.wrap IntKind.i64
 (IntKind.wrap IntKind.i64
 ((findT (treeOf y_4) (0 : Int) y_9
 (1 :
 Int)).fst.snd.fst.snd.fst.fst +
 y_6.fst.snd.snd.fst.fst) -
 y_9)))
 y_7 y_12) ≤
 (100000 : Nat)) ∧
 (y_18 = true → (none, y.snd) = y_11) ∧
 (y_18 = false →
 (some (y.fst, ()), (0 : Int), ()) = y_11)) ∧
 (y_10 = false →
 True ∧
 List.length (allI y_14) ≤ (10000 : Nat) ∧
 (List.length y_12 ≤ (10000 : Nat) ∧ shortL y_12) ∧
 (okTre (treeOf y_4) ∧
 List.length (rowF y_16.snd.fst y_7 y_12) ≤ (100000 : Nat)) ∧
 (y_17 = true → (none, y_1.snd) = y_11) ∧
 (y_17 = false →
 (some (y_1.fst, ()), (0 : Int), ()) = y_11))))))
theorem vcEq12 : fnVC E12 Tryz.f12 (bodyOf Tryz.f12) cUpdate = vc12 := by kernel_rfl
def hs38 : List (Nat × Nat × Hint) := []
def nm38 : List Nat := [3000000023]
noncomputable def E38 : Env := env tab [(69, cSum), (29, cTreeNew), (72, cTop), (76, cSplit), (65, cJoin)] [] gl hs38 nm38
def vc38 : Prop :=
 ∀
 (x :
 Option (Nd × Unit) ×
 Int × Int × List Itm × Unit),
 let y := x.snd.snd;
 let y_1 := x.snd.fst;
 let y_2 := x.fst;
 let y_3 := (sumOf (topT y_2)).fst;
 let y_4 := splitN (topT y_2) y_1;
 let y_5 :=  IntKind.wrap IntKind.i64  (IntKind.wrap IntKind.i64 (y_3 - IntKind.wrap IntKind.i64 (y.fst - y_1)) + (↑(List.length y.snd.fst) : Int));
 let y_6 := replT y_2 y_1 y.fst y.snd.fst;
 let y_7 := y.snd.fst;
 let y_8 := (splitN y_4.snd (IntKind.wrap IntKind.i64 (y.fst - y_1))).snd;
 let y_9 := decide (y.fst > y_3);
 let y := decide (y.fst < y_1);
 let y_10 := join y_4.fst (List.getD (optL (newT y_7).fst) (0 : Nat) (Ty.dflt t137)).fst;
 let y_11 := (newT y_7).snd.fst != (0 : Int);
 okTre y_2 ∧ List.length y_7 ≤ (100000 : Nat) →
 True ∧
 (decide (y_1 < (0 : Int)) = true → (none, (1 : Int), ()) = y_6) ∧
 (decide (y_1 < (0 : Int)) = false →
 (y = true → (none, (1 : Int), ()) = y_6) ∧
 (y = false →
 (y_9 = true → (none, (1 : Int), ()) = y_6) ∧
 (y_9 = false →
 List.length y_7 ≤ (100000 : Nat) ∧
 (y_11 = true → (none, (newT y_7).snd) = y_6) ∧
 (y_11 = false →
 (decide (y_5 > (30000 : Int)) = true → (none, (5 : Int), ()) = y_6) ∧
 (decide (y_5 > (30000 : Int)) = false →
 True ∧
 (WfN (topT y_2) ∧ okIts (items (topT y_2))) ∧
 (WfN y_4.snd ∧ okIts (items y_4.snd)) ∧
 Option.isSome (newT y_7).fst = true ∧
 (WfN y_4.fst ∧ WfN (List.getD (optL (newT y_7).fst) (0 : Nat) (Ty.dflt t137)).fst) ∧
 (WfN y_10 ∧ WfN y_8) ∧ (some (join y_10 y_8, ()), (0 : Int), ()) = y_6)))))
theorem vcEq38 : fnVC E38 Tryz.f38 (bodyOf Tryz.f38) cReplace = vc38 := by kernel_rfl
def hs76 : List (Nat × Nat × Hint) := [(0, 12, ⟨[.slot 1 t3, .slot 57 t3], [7, 55, 56], [], []⟩)]
def nm76 : List Nat := [3000000023]
noncomputable def E76 (nn : Nat) : Env := env tab [(66, cLeafOf), (74, cSumOf), (76, cSplit.cut muSplit nn), (102, cRowN), (65, cJoin)] [] gl hs76 nm76
def vc76 (nn : Nat) : Prop :=
 ∀ (x : Nd × Int × Unit),
 let y :=  (List.getD (optL (NT.asInner x.fst)) (0 : Nat)  (([], (0, zS, ())) : List Nd × Nx)).fst;
 let y_1 := x.snd.fst;
 let y_2 := NT.asLeaf x.fst;
 let y_3 := NT.asInner x.fst;
 let y_4 := x.fst;
 let y_5 := Option.isSome y_3;
 let y_6 := (List.getD (optL y_2) (0 : Nat) (([], zS, ()) : Lf)).fst;
 let y_7 := ((splitN y_4 y_1).fst, (splitN y_4 y_1).snd, ());
 let y_8 := decide (y_1 ≥ (↑(List.length y_6) : Int));
 let y_9 := List.take (Int.toNat y_1) y_6;
 let y_10 := List.drop (Int.toNat y_1) y_6;
 let y_11 := (↑(List.length y) : Int);
 (WfN y_4 ∧ okIts (items y_4)) ∧ muSplit x < nn + (1 : Nat) →
 (Option.isSome y_2 = true →
 (decide (y_1 ≤ (0 : Int)) = true → Option.isSome y_2 = true ∧ (NT.nil, NT.ofLeaf y_2, ()) = y_7) ∧
 (decide (y_1 ≤ (0 : Int)) = false →
 Option.isSome y_2 = true ∧
 (y_8 = true → Option.isSome y_2 = true ∧ (NT.ofLeaf y_2, (NT.nil : Nd), ()) = y_7) ∧
 (y_8 = false →
 Option.isSome y_2 = true ∧
 ((0 : Int) ≤ y_1 ∧ y_1 ≤ y_1 ∧ y_1 ≤ (↑(List.length y_6) : Int)) ∧
 List.length y_9 ≤ maxLen ∧
 Option.isSome (some (mkLf y_9)) = true ∧
 Option.isSome y_2 = true ∧
 ((0 : Int) ≤ y_1 ∧ y_1 ≤ (↑(List.length y_6) : Int)) ∧
 List.length y_10 ≤ maxLen ∧
 Option.isSome (some (mkLf y_10)) = true ∧
 (NT.ofLeaf (some (mkLf y_9)), NT.ofLeaf (some (mkLf y_10)), ()) = y_7))) ∧
 (Option.isSome y_2 = false →
 (Option.isSome y_3 = true →
 y_5 = true ∧
 ((0 : Int) = (0 : Int) ∧ y_1 = y_1 ∧ y_3 = y_3 ∧ y = y ∧ y_11 = y_11) ∧
 ∃ (Z : Int × Int × Unit → Prop),
 ∃ (μ : Int × Int × Unit → Nat),
 Z (y_1, (0 : Int), ()) ∧
 ∀ (a a_1 : Int),
 let y_12 :=  List.getD y (Int.toNat a_1)  (NT.nil : Nd);
 let y_13 := IntKind.wrap IntKind.i64 (a_1 + (1 : Int));
 let y_14 := List.take (Int.toNat a_1) y;
 let y_15 := (a, a_1, ());
 let y_16 := List.drop (Int.toNat y_13) y;
 let y_17 := (sumOf y_12).fst;
 let y_18 := (IntKind.wrap IntKind.i64 (a - y_17), y_13, ());
 Z y_15 →
 (decide (a_1 < y_11) = true →
 ((0 : Int) ≤ a_1 ∧ a_1 < y_11) ∧
 True ∧
 (decide (a ≤ y_17) = true →
 ((WfN y_12 ∧ okIts (items y_12)) ∧ muSplit (y_12, a, ()) < nn) ∧
 y_5 = true ∧
 ((0 : Int) ≤ a_1 ∧ a_1 ≤ a_1 ∧ a_1 ≤ y_11) ∧
 List.length y_14 ≤ (100000 : Nat) ∧
 (WfN (rowN y_14) ∧ WfN (splitN y_12 a).fst) ∧
 y_5 = true ∧
 ((0 : Int) ≤ y_13 ∧ y_13 ≤ y_11) ∧
 List.length y_16 ≤ (100000 : Nat) ∧
 (WfN (splitN y_12 a).snd ∧ WfN (rowN y_16)) ∧
 (join (rowN y_14) (splitN y_12 a).fst,
 join (splitN y_12 a).snd (rowN y_16), ()) =
 y_7) ∧
 (decide (a ≤ y_17) = false →
 (y_13 = y_13 ∧
 IntKind.wrap IntKind.i64 (a - y_17) = IntKind.wrap IntKind.i64 (a - y_17) ∧
 y_3 = y_3 ∧ y = y ∧ y_11 = y_11) ∧
 Z y_18 ∧ μ y_18 < μ y_15)) ∧
 (decide (a_1 < y_11) = false → y_5 = true ∧ (NT.ofInner y_3, (NT.nil : Nd), ()) = y_7)) ∧
 (Option.isSome y_3 = false → (NT.nil, (NT.nil : Nd), ()) = y_7))
theorem vcEq76 (nn : Nat) : fnVC (E76 nn) Tryz.f76 (bodyOf Tryz.f76) (cSplit.cut muSplit (nn + 1)) = vc76 nn := by kernel_rfl
end Go.Fr.Z14
namespace Go.Fr.Z14
open Go Go.Fr Go.Proofs
theorem d137 : Ty.dflt t137 = ((NT.nil, ()) : Nd × Unit) := rfl
theorem ok_part {l m : List Itm} (h : okIts l) (hm : ∀ i ∈ m, i ∈ l) (hl : m.length ≤ l.length) : okIts m := ⟨by have := h.1; omega, fun i hi => h.2 i (hm i hi)⟩
theorem splitN_leaf (x : Lf) (a : Int) : splitN (.leaf x) a = if a ≤ 0 then (.nil, .leaf x) else if a ≥ (x.1.length : Int) then (.leaf x, .nil) else (mkLeaf (x.1.take a.toNat), mkLeaf (x.1.drop a.toNat)) := rfl
theorem splitN_inner {h : Nat} {ks : List Nd} {b : Nx} {top : Bool} (e : Wf (h + 1) top (.inner ks b)) (a : Int) : splitN (.inner ks b) a = match spK ks 0 a with
      | none => (.inner ks b, .nil)
      | some q => (join (rowN (ks.take q.1)) (splitF h (ks.getD q.1 .nil) q.2).1, join (splitF h (ks.getD q.1 .nil) q.2).2 (rowN (ks.drop (q.1 + 1)))) := by
  unfold splitN
  rw [(wf_height e).1]
  rfl
theorem splitN_kid {h : Nat} {n : Nd} (e : Wf h false n) (a : Int) : splitF h n a = splitN n a := by
  unfold splitN
  rw [(wf_height e).1]
  rfl
theorem ofLeaf_self {n : Nd} (h : (NT.asLeaf n).isSome = true) : NT.ofLeaf (NT.asLeaf n) = n := by
  cases n with
  | nil => cases h
  | leaf a => rfl
  | inner ks b => cases h
theorem ofInner_self {n : Nd} (h : (NT.asInner n).isSome = true) : NT.ofInner (NT.asInner n) = n := by
  cases n with
  | nil => cases h
  | leaf a => cases h
  | inner ks b => rfl
theorem leaf_is {n : Nd} (h : (NT.asLeaf n).isSome = true) : ∃ a, n = .leaf a := by
  cases n with
  | nil => cases h
  | leaf a => exact ⟨a, rfl⟩
  | inner ks b => cases h
theorem p76 (n : Nat) : vc76 n := by
  unfold vc76
  simp only [eq_self, true_and, and_true, decide_eq_true_eq, decide_eq_false_iff_not]
  rintro ⟨x, a, ⟨⟩⟩
  simp only [maxLen_eq, ka', la']
  rintro ⟨⟨hw, hok⟩, hmu⟩
  have hf := fine_of hok.2
  have hl := hok.1
  refine ⟨fun hi => ?_, fun hi => ⟨fun hj => ⟨hj, ?_⟩, fun hj => ?_⟩⟩
  · obtain ⟨lf, rfl⟩ := leaf_is hi
    rw [itemsOf_leaf, splitN_leaf]
    have hlen : lf.1.length ≤ 100000 := hl
    have t1 : (lf.1.take a.toNat).length ≤ 9223372036854775807 := by rw [List.length_take]; omega
    have t2 : (lf.1.drop a.toNat).length ≤ 9223372036854775807 := by rw [List.length_drop]; omega
    refine ⟨fun g => ⟨hi, by rw [if_pos g]; rfl⟩, fun g => ⟨hi, fun g2 => ⟨hi, by rw [if_neg g, if_pos g2]; rfl⟩, fun g2 => ?_⟩⟩
    rw [if_neg g, if_neg g2]
    (repeat' (first | apply And.intro | intro _))
    all_goals first
      | exact hi
      | exact t1
      | exact t2
      | rfl
      | omega
  · rcases hw with rfl | ⟨h, h1, w⟩
    · cases hj
    obtain ⟨h', bx, rfl, ea, p1, k8, wk⟩ := wf_inner_of w hj
    have ei : items x = (kidsOf x).flatMap items := by
      rw [ea] at w ⊢
      exact items_inner w (by omega)
    have sp : splitN x a = match spK (kidsOf x) 0 a with
      | none => (x, .nil)
      | some q => (join (rowN ((kidsOf x).take q.1)) (splitF h' ((kidsOf x).getD q.1 .nil) q.2).1, join (splitF h' ((kidsOf x).getD q.1 .nil) q.2).2 (rowN ((kidsOf x).drop (q.1 + 1)))) := by
      rw [ea] at w ⊢
      exact splitN_inner w a
    have hmu : h' + 1 < n + 1 := by
      unfold muSplit at hmu
      rw [(wf_height w).1] at hmu
      exact hmu
    have self := ofInner_self hj
    rw [self]
    rw [ei] at hf hl hok
    clear w self ea
    generalize kidsOf x = ks at hf hl hok sp k8 wk ⊢
    refine ⟨fun z => ∃ k : Nat, k ≤ ks.length ∧ z.2.1 = (k : Int) ∧ spK (ks.drop k) k z.1 = spK ks 0 a, fun z => ks.length - z.2.1.toNat, ⟨0, Nat.zero_le _, rfl, rfl⟩, ?_⟩
    rintro a' i ⟨k, hk, hi2, hs⟩
    simp only at hi2 hs
    subst hi2
    refine ⟨fun g => ?_, fun g => ⟨hj, ?_⟩⟩
    · have hlt : k < ks.length := by omega
      have hw64 : IntKind.i64.wrap ((k : Int) + 1) = ((k + 1 : Nat) : Int) := wrap_succ (by omega)
      rw [toNat_cast, hw64]
      simp only [toNat_cast]
      have mem := getD_in (.nil : Nd) hlt
      have wkk := wk _ mem
      have fl := flat_len_le hlt
      have fm := fine_mem hf mem
      have okm : okIts (items (ks.getD k .nil)) := ok_part hok (fun i hi => List.mem_flatMap.2 ⟨_, mem, hi⟩) (len_mem mem)
      rw [drop_cons .nil hlt] at hs
      have es : spK (ks.getD k .nil :: ks.drop (k + 1)) k a' = if a' ≤ (sumOf (ks.getD k .nil)).1 then some (k, a') else spK (ks.drop (k + 1)) (k + 1) (w64 (a' - (sumOf (ks.getD k .nil)).1)) := rfl
      rw [es] at hs
      refine ⟨⟨by omega, g⟩, fun g4 => ?_, fun g4 => ⟨⟨k + 1, hlt, rfl, ?_⟩, by first | omega | (simp only [toNat_cast]; omega)⟩⟩
      · rw [if_pos g4] at hs
        rw [← hs] at sp
        simp only [] at sp
        rw [splitN_kid wkk] at sp
        have ha' : a' ≤ 9223372036854775807 := by
          have := (sum_wf h' false _ (by omega) wkk fm okm.1).1
          have := okm.1
          omega
        obtain ⟨s1, s2, s3, s4⟩ := splitN_ok (a := a') (.inr ⟨h', by omega, wf_top wkk⟩) fm okm.1 ha'
        obtain ⟨r1, r2⟩ := rowN_ok (ks := ks.take k) p1 (by omega) (by rw [List.length_take]; omega) (fun k hk => wk k (List.mem_of_mem_take hk))
        obtain ⟨r3, r4⟩ := rowN_ok (ks := ks.drop (k + 1)) p1 (by omega) (by rw [List.length_drop]; omega) (fun k hk => wk k (List.mem_of_mem_drop hk))
        have mu : muSplit (ks.getD k .nil, a', ()) < n := by
          unfold muSplit
          rw [(wf_height wkk).1]
          simp only [Int.toNat_natCast]
          omega
        have wn : WfN (ks.getD k .nil) := .inr ⟨h', by omega, wf_top wkk⟩
        have l1 : (ks.take k).length ≤ 100000 := by rw [List.length_take]; omega
        have l2 : (ks.drop (k + 1)).length ≤ 100000 := by rw [List.length_drop]; omega
        rw [sp]
        (repeat' (first | apply And.intro | intro _))
        all_goals first
          | exact wn
          | exact okm.1
          | exact okm.2 _ (by assumption)
          | exact mu
          | exact hj
          | exact l1
          | exact l2
          | exact r1
          | exact r3
          | exact s1
          | exact s2
          | rfl
          | omega
      · rw [if_neg g4] at hs
        exact hs
    · have hke : k = ks.length := by omega
      rw [hke, List.drop_length] at hs
      have hs : (none : Option (Nat × Int)) = spK ks 0 a := hs
      rw [sp, ← hs]
  · rw [nil_of hi hj]
    rfl
theorem maxI_eq (a b : Int) : (if a < b then b else a) = maxI a b := rfl
theorem p38 : vc38 := by
  unfold vc38
  simp only [true_and, decide_eq_true_eq, decide_eq_false_iff_not, bne_iff_ne, bne_eq_false_iff_eq, ne_eq]
  rintro ⟨t, f, e, l, ⟨⟩⟩
  simp only [d137]
  rintro ⟨⟨hw, hok⟩, hl⟩
  have hf := fine_of hok.2
  have so := (sum_top hw hf hok.1).1
  have bad : (f < 0 ∨ e < f ∨ e > (sumOf (topT t)).1) → (none, 1, ()) = replT t f e l := fun h => by unfold replT; rw [if_pos h]
  refine ⟨fun h => bad (.inl h), fun g0 => ⟨fun h => bad (.inr (.inl h)), fun g1 => ⟨fun h => bad (.inr (.inr h)), fun g2 => ⟨hl, fun h => ?_, fun h => ?_⟩⟩⟩⟩
  · unfold replT
    rw [if_neg (by omega), if_pos h]
  · obtain ⟨n1, n2, n3⟩ := newT_zero h
    refine ⟨fun h2 => ?_, fun h2 => ?_⟩
    · unfold replT
      rw [if_neg (by omega), if_neg (fun hh => hh h), if_pos (show w64 (w64 ((sumOf (topT t)).1 - w64 (e - f)) + (l.length : Int)) > 30000 from h2)]
    · obtain ⟨b1, b2⟩ := buildT_ok hl
      have hlo := hok.1
      obtain ⟨r1, r2, r3, r4, r5, r6, r7⟩ := replN_ok (mid := buildT l) (from_ := f) (to := e) hw hf hok.1 b1 (by rw [b2]; exact hl) (by omega) (by omega) (by omega)
      have e1 : ((optL (newT l).1).getD 0 ((NT.nil, ()) : Nd × Unit)).1 = buildT l := by rw [n3]; rfl
      have e2 : (newT l).1.isSome = true := by rw [n3]; rfl
      rw [e1]
      have okd : okIts (items (splitN (topT t) f).2) := by
        rw [r3]
        exact ok_part hok (fun i hi => List.mem_of_mem_drop hi) (by rw [List.length_drop]; omega)
      have fin : (some (join (join (splitN (topT t) f).1 (buildT l)) (splitN (splitN (topT t) f).2 (IntKind.i64.wrap (e - f))).2, ()), (0 : Int), ()) = replT t f e l := by
        unfold replT
        rw [if_neg (by omega), if_neg (fun hh => hh h), if_neg (show ¬ w64 (w64 ((sumOf (topT t)).1 - w64 (e - f)) + (l.length : Int)) > 30000 from h2), n3]
        rfl
      exact ⟨⟨hw, hok⟩, ⟨r2, okd⟩, e2, ⟨r1, b1⟩, ⟨r4, r5⟩, fin⟩
theorem upd_bad {w : Wve} {old now : Span} {s : Option ISet} (h : (fitsW old (sumOf (topT (treeOf w))).2.1.1 && fitsW now (lenI s) && decide (old.1 = now.1) && decide (w64 ((sumOf (topT (treeOf w))).2.1.1 - old.2.1) = w64 (lenI s - now.2.1))) = false) : (none, 1, ()) = updW w old now s := by
  unfold updW; rw [if_pos h]
theorem p12 : vc12 := by
  unfold vc12
  simp only [true_and, beq_iff_eq, beq_eq_false_iff_ne, bne_iff_ne, bne_eq_false_iff_eq, Bool.not_eq_true', Bool.not_eq_false', ne_eq]
  rintro ⟨w, old, now, s, ⟨⟩⟩
  simp only [maxI_eq]
  rintro ⟨hok, hl, hs⟩
  have hfl : ((allI s).filter (inI now.1 now.2.1)).length ≤ 10000 := Nat.le_trans (List.length_filter_le _ _) hl
  have hfs : shortL ((allI s).filter (inI now.1 now.2.1)) := fun x hx => hs x (List.mem_filter.1 hx).1
  have rl := fun t f => rowF_len t f ((allI s).filter (inI now.1 now.2.1))
  have rl2 := fun t f => Nat.le_trans (rl t f) (show 2 * ((allI s).filter (inI now.1 now.2.1)).length + 1 ≤ 100000 by omega)
  refine ⟨fun h => upd_bad (by rw [h]; rfl), fun g0 => ⟨fun h => upd_bad (by rw [h, Bool.and_false]; rfl), fun g1 => ⟨fun h => upd_bad (by rw [decide_eq_false h, Bool.and_false]; rfl), fun g2 => ⟨fun h => upd_bad (by rw [decide_eq_false (show ¬ w64 ((sumOf (topT (treeOf w))).2.1.1 - old.2.1) = w64 (lenI s - now.2.1) from h), Bool.and_false]), fun g3 => ?_⟩⟩⟩⟩
  have good : (fitsW old (sumOf (topT (treeOf w))).2.1.1 && fitsW now (lenI s) && decide (old.1 = now.1) && decide (w64 ((sumOf (topT (treeOf w))).2.1.1 - old.2.1) = w64 (lenI s - now.2.1))) = true := by
    rw [g0, g1, decide_eq_true g2, decide_eq_true (show w64 ((sumOf (topT (treeOf w))).2.1.1 - old.2.1) = w64 (lenI s - now.2.1) from g3)]
    rfl
  have no : ¬ (updR w old now s).2.1 = 0 → (none, (updR w old now s).2) = updW w old now s := fun h => by
    unfold updW
    rw [good, if_neg (by decide), if_pos h]
  have yes : (updR w old now s).2.1 = 0 → (some ((updR w old now s).1, ()), 0, ()) = updW w old now s := fun h => by
    unfold updW
    rw [good, if_neg (by decide), if_neg (fun hh => hh h)]
  have hw := hok.1
  refine ⟨hw, hw, ⟨by decide, by decide⟩, hok, fun g4 => ?_, fun g4 => ?_⟩
  · have eR : updR w old now s = replT (treeOf w) (findT (treeOf w) 0 old.1 0).1.1 (maxI (findT (treeOf w) 0 old.1 0).1.1 (IntKind.i64.wrap ((findT (treeOf w) 0 old.2.1 1).1.1 + 1))) (rowF (IntKind.i64.wrap (now.2.1 + IntKind.i64.wrap (IntKind.i64.wrap ((findT (treeOf w) 0 old.2.1 1).1.2.1.2.1.1 + (atT (treeOf w) (findT (treeOf w) 0 old.2.1 1).1.1).1.2.2.1.1) - old.2.1))) (findT (treeOf w) 0 old.1 0).1.2.1.2.1.1 ((allI s).filter (inI now.1 now.2.1))) := by
      unfold updR updL updE
      rw [if_pos g4, if_pos g4]
      rfl
    rw [← eR]
    exact ⟨⟨by decide, by decide⟩, ⟨by decide, by decide⟩, hl, ⟨hfl, hfs⟩, ⟨hok, rl2 _ _⟩, no, yes⟩
  · have eR : updR w old now s = replT (treeOf w) (findT (treeOf w) 0 old.1 0).1.1 (maxI (findT (treeOf w) 0 old.1 0).1.1 (findT (treeOf w) 0 old.2.1 1).1.1) (rowF now.2.1 (findT (treeOf w) 0 old.1 0).1.2.1.2.1.1 ((allI s).filter (inI now.1 now.2.1))) := by
      unfold updR updL updE
      rw [if_neg g4, if_neg g4]
    rw [← eR]
    exact ⟨hl, ⟨hfl, hfs⟩, ⟨hok, rl2 _ _⟩, no, yes⟩
end Go.Fr.Z14
namespace Go.Fr.Z14
open Go Go.Fr Go.Proofs
set_option maxRecDepth 100000
def hs3 : List (Nat × Nat × Hint) := [(0, 19, ⟨[.rowS 16 900000016 t48 48, .slot 135 t3], [5, 11, 13, 14, 133, 134], [5, 13], []⟩),
  (0, 26, ⟨[.slot 19 t3, .slot 159 t3], [5, 13, 14, 16, 157, 158], [5, 13], [154, 900000016]⟩)]
def nm3 : List Nat := [3000000023]
noncomputable def E3 : Env := env tab [(5, cLong), (6, cFour), (7, cNew), (8, cRefNew), (9, cWeave), (10, cSplice), (11, cRefSplice), (12, cUpdate), (13, cFits2), (14, cIs), (15, cAll)] [] gl hs3 nm3
def vc3 : Prop :=
 ∀
 (x :
 Int ×
 List Inl ×
 (Int × Int × List Int × List Inl × Unit) × Unit),
 let y := x.snd.snd.fst.snd.snd;
 let y_1 := (newI x.fst x.snd.fst).fst;
 let y_2 := x.snd.snd.fst;
 let y_3 := x.snd.fst;
 let y_4 := x.fst;
 let y_5 := (newW y_4 y_3).snd.snd.fst != (0 : Int);
 let y_6 := newW y_4 y_3;
 let y_7 := (newI y_4 y_3).snd.fst != (0 : Int);
 let y_8 := y_2.snd.fst;
 let y_9 := y_2.fst;
 let y_10 := (y_9, y_8, ());
 let y_11 := !fits2 y_4 y_4 y_10 y_10;
 let y_12 := (↑(List.length (allI y_1)) : Int);
 let y_13 := !isW (weaveI y_1) y_6;
 let y_14 := (spliceI y_1 y.fst y.snd.fst).fst;
 let y_15 := updW (weaveI y_1) y_10 y_10 y_14;
 let y_16 := y_14;
 let y_17 := spliceW y_6 y.fst y.snd.fst;
 let y_18 := y.snd.fst;
 let y := y.fst;
 let y_19 := decide ((↑(List.length y) : Int) > (60 : Int));
 let y_20 := (spliceI y_1 y y_18).snd.fst != (0 : Int);
 let y_21 := y_17.snd.snd.fst;
 let y_22 := y_17.snd.fst;
 let y_23 := y_17.fst;
 let y_24 := y_21 != (0 : Int);
 let y_25 := (↑(List.length (allI y_16)) : Int);
 let y_26 := y_15.fst;
 let y_27 := y_15.snd.fst;
 let y_28 := isW y_26 y_17;
 List.length y_3 ≤ maxLen ∧ List.length y ≤ maxLen ∧ List.length y_18 ≤ maxLen →
 List.length y_3 ≤ maxLen ∧
 (longW y_4 y_3 = true → True ∧ true = true) ∧
 (longW y_4 y_3 = false →
 List.length y_18 ≤ maxLen ∧
 (longW y_4 y_18 = true → True ∧ true = true) ∧
 (longW y_4 y_18 = false →
 (y_19 = true → True ∧ true = true) ∧
 (y_19 = false →
 (List.length y_3 ≤ maxLen ∧ shortL y_3) ∧
 (y_7 = true →
 (List.length y_3 ≤ maxLen ∧ shortL y_3) ∧
 (y_5 = true → True ∧ true = true) ∧ (y_5 = false → false = true)) ∧
 (y_7 = false →
 (Option.isNone y_1 = true →
 (List.length y_3 ≤ maxLen ∧ shortL y_3) ∧
 (y_5 = true → True ∧ true = true) ∧ (y_5 = false → false = true)) ∧
 (Option.isNone y_1 = false →
 (List.length (allI y_1) ≤ (10000 : Nat) ∧ shortL (allI y_1)) ∧
 (okI y_1 ∧
 List.length y ≤ (10000 : Nat) ∧ List.length y_18 ≤ (10000 : Nat) ∧ shortL y_18) ∧
 (List.length y_3 ≤ maxLen ∧ shortL y_3) ∧
 (okW y_6 ∧
 List.length y ≤ (10000 : Nat) ∧
 List.length y_18 ≤ (10000 : Nat) ∧ shortL y_18) ∧
 (y_20 = true →
 (y_24 = true → True ∧ true = true) ∧ (y_24 = false → false = true)) ∧
 (y_20 = false →
 (Option.isNone y_16 = true →
 (y_24 = true → True ∧ true = true) ∧ (y_24 = false → false = true)) ∧
 (Option.isNone y_16 = false →
 (okTre (treeOf (weaveI y_1)) ∧
 List.length (allI y_16) ≤ (10000 : Nat) ∧ shortL (allI y_16)) ∧
 True ∧
 (y_11 = true →
 ((y_27 == (1 : Int)) = true →
 (Option.isNone y_26 = true → True ∧ true = true) ∧
 (Option.isNone y_26 = false → false = true)) ∧
 ((y_27 == (1 : Int)) = false → false = true)) ∧
 (y_11 = false →
 ((y_27 != (0 : Int)) = true → false = true) ∧
 ((y_27 != (0 : Int)) = false →
 (Option.isNone y_26 = true → false = true) ∧
 (Option.isNone y_26 = false →
 (List.length y_3 ≤ maxLen ∧ shortL y_3) ∧
 (smallW y_6 ∧
 (topT (treeOf (weaveI y_1)) = (NT.nil : Nd) ∨
 ∃ (h : Nat),
 h ≤ (3 : Nat) ∧
 Wf h true (topT (treeOf (weaveI y_1)))) ∧
 List.length (items (topT (treeOf (weaveI y_1)))) ≤
 (10000 : Nat)) ∧
 (y_13 = true → false = true) ∧
 (y_13 = false →
 List.length (allI y_1) ≤ (10000 : Nat) ∧
 (((0 : Int) = (0 : Int) ∧
 True ∧
 True ∧
 y_16 = y_16 ∧
 True ∧
 y_26 = y_26 ∧
 allI y_1 = allI y_1 ∧
 y_12 = y_12) ∧
 ((y_9 = y_9 ∧
 y_8 = y_8 ∧ y = y ∧ y_18 = y_18) ∧
 y_23 = y_23 ∧
 y_22 = y_22 ∧ y_21 = y_21) ∧
 True ∧ True) ∧
 ∃ (Z :
 List
 (Int ×
 Int ×
 Int × Int × ByteArray × Unit) ×
 Int × Unit →
 Prop),
 ∃ (μ :
 List
 (Int ×
 Int ×
 Int × Int × ByteArray × Unit) ×
 Int × Unit →
 Nat),
 Z ([], (0 : Int), ()) ∧
 ∀
 (a :
 List
 (Int ×
 Int ×
 Int ×
 Int × ByteArray × Unit)),
 let y_29 := (↑(List.length a) : Int);
 ∀ (a_1 : Int),
 let y_30 :=  (a ++  [List.getD (allI y_1)  (Int.toNat a_1)  (Ty.dflt t48)],  IntKind.wrap IntKind.i64  (a_1 + (1 : Int)),  ());
 let y_31 :=  (List.getD (allI y_1)  (Int.toNat a_1)  (Ty.dflt t48)).snd.fst;
 let y_32 := (a, a_1, ());
 let y_33 :=  [List.getD (allI y_1)  (Int.toNat a_1)  (Ty.dflt t48)];
 let y_34 :=  IntKind.wrap IntKind.i64  (a_1 + (1 : Int));
 let y_35 := (a, y_34, ());
 let y_36 := a ++ y_33;
 let y_37 :=  List.length a + List.length y_33;
 Z y_32 →
 (decide (a_1 < y_12) = true →
 ((0 : Int) ≤ a_1 ∧
 a_1 < y_12) ∧
 (decide (y_31 < y_9) =
 true →
 y_37 * (48 : Nat) ≤
 (140737488355328 :
 Nat) ∧
 y_37 ≤ maxLen ∧
 ((y_34 = y_34 ∧
 True ∧
 True ∧
 y_16 =
 y_16 ∧
 True ∧
 y_26 =
 y_26 ∧
 allI
 y_1 =
 allI
 y_1 ∧
 y_12 =
 y_12) ∧
 ((y_9 = y_9 ∧
 y_8 =
 y_8 ∧
 y = y ∧
 y_18 =
 y_18) ∧
 y_23 =
 y_23 ∧
 y_22 =
 y_22 ∧
 y_21 =
 y_21) ∧
 y_36 = y_36 ∧
 True) ∧
 Z y_30 ∧
 μ y_30 <
 μ y_32) ∧
 (decide (y_31 < y_9) =
 false →
 (decide (y_31 > y_8) =
 true →
 y_37 * (48 : Nat) ≤
 (140737488355328 :
 Nat) ∧
 y_37 ≤ maxLen ∧
 ((y_34 = y_34 ∧
 True ∧
 True ∧
 y_16 =
 y_16 ∧
 True ∧
 y_26 =
 y_26 ∧
 allI
 y_1 =
 allI
 y_1 ∧
 y_12 =
 y_12) ∧
 ((y_9 =
 y_9 ∧
 y_8 =
 y_8 ∧
 y =
 y ∧
 y_18 =
 y_18) ∧
 y_23 =
 y_23 ∧
 y_22 =
 y_22 ∧
 y_21 =
 y_21) ∧
 y_36 =
 y_36 ∧
 True) ∧
 Z y_30 ∧
 μ y_30 <
 μ y_32) ∧
 (decide (y_31 > y_8) =
 false →
 ((y_34 = y_34 ∧
 True ∧
 True ∧
 y_16 =
 y_16 ∧
 True ∧
 y_26 =
 y_26 ∧
 allI
 y_1 =
 allI
 y_1 ∧
 y_12 =
 y_12) ∧
 ((y_9 = y_9 ∧
 y_8 =
 y_8 ∧
 y = y ∧
 y_18 =
 y_18) ∧
 y_23 =
 y_23 ∧
 y_22 =
 y_22 ∧
 y_21 =
 y_21) ∧
 a = a ∧
 True) ∧
 Z y_35 ∧
 μ y_35 <
 μ y_32))) ∧
 (decide (a_1 < y_12) = false →
 List.length (allI y_16) ≤
 (10000 : Nat) ∧
 (((0 : Int) = (0 : Int) ∧
 (0 : Int) =
 (0 : Int) ∧
 True ∧
 True ∧
 y_26 = y_26 ∧
 True ∧
 allI y_16 =
 allI
 y_16 ∧
 y_25 =
 y_25) ∧
 ((y_9 = y_9 ∧
 y_8 = y_8 ∧
 y = y ∧
 y_18 = y_18) ∧
 y_23 = y_23 ∧
 y_22 = y_22 ∧
 y_21 = y_21) ∧
 a = a ∧ True) ∧
 ∃ (Z :
 Int × Int × Unit →
 Prop),
 ∃ (μ :
 Int × Int × Unit →
 Nat),
 Z
 ((0 : Int),
 (0 : Int), ()) ∧
 ∀ (a_4 : Int),
 let y_38 :=  IntKind.wrap  IntKind.i64  (a_4 +  (1 : Int));
 let y_39 :=  decide  (a_4 ≥ y_29);
 let y_40 :=  List.getD a  (Int.toNat  a_4)  (Ty.dflt t48);
 ∀ (a_5 : Int),
 let y_41 :=  (List.getD  (allI  y_16)  (Int.toNat  a_5)  (Ty.dflt  t48)).snd.fst;
 let y_42 :=  IntKind.wrap  IntKind.i64  (a_5 +  (1 :  Int));
 let y_43 :=  (a_4, a_5,  ());
 let y_44 :=  !Ty.beq t48  y_40  (List.getD  (allI  y_16)  (Int.toNat  a_5)  (Ty.dflt  t48));
 let y_45 :=  (y_38, y_42,  ());
 let y_46 :=  (a_4, y_42,  ());
 Z y_43 →
 (decide
 (a_5 <
 y_25) =
 true →
 ((0 :
 Int) ≤
 a_5 ∧
 a_5 <
 y_25) ∧
 (decide
 (y_41 <
 y_9) =
 true →
 (y_39 =
 true →
 True ∧
 true =
 true) ∧
 (y_39 =
 false →
 ((0 :
 Int) ≤
 a_4 ∧
 a_4 <
 y_29) ∧
 (y_44 =
 true →
 True ∧
 true =
 true) ∧
 (y_44 =
 false →
 ((y_42 =
 y_42 ∧
 y_38 =
 y_38 ∧
 True ∧
 True ∧
 y_26 =
 y_26 ∧
 True ∧
 allI
 y_16 =
 allI
 y_16 ∧
 y_25 =
 y_25) ∧
 ((y_9 =
 y_9 ∧
 y_8 =
 y_8 ∧
 y =
 y ∧
 y_18 =
 y_18) ∧
 y_23 =
 y_23 ∧
 y_22 =
 y_22 ∧
 y_21 =
 y_21) ∧
 a =
 a ∧
 True) ∧
 Z
 y_45 ∧
 μ
 y_45 <
 μ
 y_43))) ∧
 (decide
 (y_41 <
 y_9) =
 false →
 (decide
 (y_41 >
 y_8) =
 true →
 (y_39 =
 true →
 True ∧
 true =
 true) ∧
 (y_39 =
 false →
 ((0 :
 Int) ≤
 a_4 ∧
 a_4 <
 y_29) ∧
 (y_44 =
 true →
 True ∧
 true =
 true) ∧
 (y_44 =
 false →
 ((y_42 =
 y_42 ∧
 y_38 =
 y_38 ∧
 True ∧
 True ∧
 y_26 =
 y_26 ∧
 True ∧
 allI
 y_16 =
 allI
 y_16 ∧
 y_25 =
 y_25) ∧
 ((y_9 =
 y_9 ∧
 y_8 =
 y_8 ∧
 y =
 y ∧
 y_18 =
 y_18) ∧
 y_23 =
 y_23 ∧
 y_22 =
 y_22 ∧
 y_21 =
 y_21) ∧
 a =
 a ∧
 True) ∧
 Z
 y_45 ∧
 μ
 y_45 <
 μ
 y_43))) ∧
 (decide
 (y_41 >
 y_8) =
 false →
 ((y_42 =
 y_42 ∧
 a_4 =
 a_4 ∧
 True ∧
 True ∧
 y_26 =
 y_26 ∧
 True ∧
 allI
 y_16 =
 allI
 y_16 ∧
 y_25 =
 y_25) ∧
 ((y_9 =
 y_9 ∧
 y_8 =
 y_8 ∧
 y =
 y ∧
 y_18 =
 y_18) ∧
 y_23 =
 y_23 ∧
 y_22 =
 y_22 ∧
 y_21 =
 y_21) ∧
 a =
 a ∧
 True) ∧
 Z
 y_46 ∧
 μ
 y_46 <
 μ
 y_43))) ∧
 (decide
 (a_5 <
 y_25) =
 false →
 (decide
 (a_4 <
 y_29) =
 true →
 True ∧
 true =
 true) ∧
 (decide
 (a_4 <
 y_29) =
 false →
 (smallW
 y_17 ∧
 (topT
 (treeOf
 y_26) =
 (NT.nil : Nd) ∨
 ∃
 (h
 :
 Nat),
 h ≤
 (3 :
 Nat) ∧
 Wf
 h
 true
 (topT
 (treeOf
 y_26))) ∧
 List.length
 (items
 (topT
 (treeOf
 y_26))) ≤
 (10000 :
 Nat)) ∧
 (y_28 =
 true →
 True ∧
 true =
 true) ∧
 (y_28 =
 false →
 false =
 true)))))))))))))))
theorem vcEq3 : fnVC E3 Tryz.f3 (bodyOf Tryz.f3) cWeaveSplices = vc3 := by kernel_rfl
def hs4 : List (Nat × Nat × Hint) := []
def nm4 : List Nat := [3000000023]
noncomputable def E4 : Env := env tab [(5, cLong), (6, cFour), (7, cNew), (8, cRefNew), (16, cShift), (17, cRefShift), (9, cWeave), (12, cUpdate), (14, cIs)] [] gl hs4 nm4
def vc4 : Prop :=
 ∀ (x : Int × List Inl × ((Int × Int × Unit) × (Int × Int × Unit) × Unit) × Unit),
 let y :=  updW (weaveI (newI x.fst x.snd.fst).fst) x.snd.snd.fst.fst x.snd.snd.fst.snd.fst  (shiftI (newI x.fst x.snd.fst).fst [x.snd.snd.fst]).fst;
 let y_1 := x.snd.fst;
 let y_2 := x.snd.snd.fst;
 let y_3 := x.fst;
 let y_4 := y_2.snd.fst.snd.fst;
 let y_5 := shiftI (newI y_3 y_1).fst [y_2];
 let y_6 := (shiftW (newW y_3 y_1) [y_2]).snd.snd.fst != (0 : Int);
 let y_7 := (newW y_3 y_1).snd.snd.fst != (0 : Int);
 let y_8 := (newI y_3 y_1).fst;
 let y_9 := shiftW (newW y_3 y_1) [y_2];
 let y_10 := (newI y_3 y_1).snd.fst != (0 : Int);
 let y_11 := y_5.snd.fst != (0 : Int);
 let y_12 := y_5.fst;
 let y_13 := isW y.fst y_9;
 let y_14 := y.fst;
 let y := y.snd.fst == (0 : Int);
 List.length y_1 ≤ maxLen →
 List.length y_1 ≤ maxLen ∧
 (longW y_3 y_1 = true → True ∧ true = true) ∧
 (longW y_3 y_1 = false →
 (decide (y_4 > (300 : Int)) = true → True ∧ true = true) ∧
 (decide (y_4 > (300 : Int)) = false →
 (List.length y_1 ≤ maxLen ∧ shortL y_1) ∧
 (y_10 = true →
 (List.length y_1 ≤ maxLen ∧ shortL y_1) ∧
 (y_7 = true → True ∧ true = true) ∧ (y_7 = false → false = true)) ∧
 (y_10 = false →
 (Option.isNone y_8 = true →
 (List.length y_1 ≤ maxLen ∧ shortL y_1) ∧
 (y_7 = true → True ∧ true = true) ∧ (y_7 = false → false = true)) ∧
 (Option.isNone y_8 = false →
 (okI y_8 ∧ List.length [y_2] ≤ (1000 : Nat)) ∧
 (List.length y_1 ≤ maxLen ∧ shortL y_1) ∧
 (okW (newW y_3 y_1) ∧
 (∀ (m : Ty.den t48),
 let y := m.snd.fst;
 m ∈
 (cRefNew.fn (y_3, y_1, ()),
 [((y_2.fst.fst, y_2.fst.snd.fst, ()), (y_2.snd.fst.fst, y_4, ()), ())],
 ()).fst.snd.fst →
 (0 : Int) ≤ y ∧ y ≤ (1099511627776 : Int)) ∧
 List.length [y_2] ≤ (1000 : Nat)) ∧
 (y_11 = true → (y_6 = true → True ∧ true = true) ∧ (y_6 = false → false = true)) ∧
 (y_11 = false →
 (Option.isNone y_12 = true →
 (y_6 = true → True ∧ true = true) ∧ (y_6 = false → false = true)) ∧
 (Option.isNone y_12 = false →
 (List.length (allI y_8) ≤ (10000 : Nat) ∧ shortL (allI y_8)) ∧
 (okTre (treeOf (weaveI y_8)) ∧
 List.length (allI y_12) ≤ (10000 : Nat) ∧ shortL (allI y_12)) ∧
 (y = true →
 (Option.isSome y_14 = true →
 (smallW y_9 ∧
 (topT (treeOf y_14) = (NT.nil : Nd) ∨
 ∃ (h : Nat), h ≤ (3 : Nat) ∧ Wf h true (topT (treeOf y_14))) ∧
 List.length (items (topT (treeOf y_14))) ≤ (10000 : Nat)) ∧
 (y_13 = true → True ∧ true = true) ∧
 (y_13 = false → false = true)) ∧
 (Option.isSome y_14 = false → false = true)) ∧
 (y = false → false = true)))))))
theorem vcEq4 : fnVC E4 Tryz.f4 (bodyOf Tryz.f4) cWeaveEdits = vc4 := by kernel_rfl
end Go.Fr.Z14
namespace Go.Fr.Z14
open Go Go.Fr Go.Proofs
theorem long_short {n : Int} {l : List Inl} (h : longW n l = false) : 0 ≤ n ∧ n ≤ 300 ∧ l.length ≤ 60 ∧ shortL l := by
  unfold longW at h
  simp only [Bool.or_eq_false_iff, decide_eq_false_iff_not, List.any_eq_false, decide_eq_true_eq] at h
  refine ⟨by omega, by omega, by omega, fun x hx => ?_⟩
  have := h.2 x hx
  omega
theorem isnone_of {s : Option ISet} (h : s.isNone = false) : ¬ s = none := fun e => by rw [e] at h; cases h
theorem code_ok (n : Int) (l : List Inl) : ((newI n l).1.isNone = true ↔ wrongN n l ≠ 0) ∧ (newI n l).2.1 = wrongN n l ∧ (newW n l).2.2.1 = wrongN n l := by
  by_cases h : wrongN n l = 0
  · rw [new_fst h, newW_fst h, h]
    exact ⟨⟨fun h => (by cases h), fun h => absurd rfl h⟩, rfl, rfl⟩
  · rw [new_bad h, newW_bad h]
    exact ⟨⟨fun _ => h, fun _ => rfl⟩, rfl, rfl⟩
theorem made_all {s : Option ISet} {w : WSet} (h : Made s w) : ∃ n L, s = some (n, L, ()) ∧ w = (n, L, 0, ()) ∧ 0 ≤ n ∧ n ≤ 1099511627776 ∧ L.length ≤ 60 ∧ Inls 0 n L ∧ (∀ x ∈ L, (txt x).size ≤ 1000) ∧
    (L.length ≤ 10000 ∧ shortL L) ∧ okTre (treeOf (weaveI s)) ∧ WfN (topT (treeOf (weaveI s))) ∧ (topT (treeOf (weaveI s)) = .nil ∨ ∃ h : Nat, h ≤ 3 ∧ Wf h true (topT (treeOf (weaveI s)))) ∧ (items (topT (treeOf (weaveI s)))).length ≤ 10000 := by
  obtain ⟨_, o1, _⟩ := made_ok h
  have h' := h
  obtain ⟨n0, L0, es0, ew0, hwr, hcl, _⟩ := h'
  obtain ⟨n, L, rfl, rfl, h0, h1, hl, hi⟩ := made_inls h
  have hL : L0 = L := by
    injection es0 with e
    injection e with _ e
    injection e with e _
    exact e.symm
  subst hL
  have hsz : ∀ x ∈ L0, (txt x).size ≤ 1000 := fun x hx => by
    obtain ⟨y, hy, e⟩ := List.mem_map.1 (by rw [hcl]; exact hx : x ∈ L0.map cleanI)
    rw [← e]
    have := clean_small ((wrong_zero.1 hwr).2.2.1 y hy)
    omega
  obtain ⟨w1, w2, w3, w4, w5, _⟩ := weave_ok h0 h1 hl hi
  have et : topT (treeOf (weaveI (some (n, L0, ())))) = buildT (rowP n 0 L0) := by rw [w1]; rfl
  refine ⟨n, L0, rfl, rfl, h0, h1, hl, hi, hsz, ⟨by omega, fun x hx => Nat.le_trans (hsz x hx) (by decide)⟩, ?_⟩
  have ot : okTre (treeOf (weaveI (some (n, L0, ())))) := by
    unfold okTre
    rw [et, w3]
    exact ⟨w2, by omega, row_check h1 0 L0 (Int.le_refl _) hi⟩
  refine ⟨ot, ot.1, ?_, ?_⟩
  · rw [et]; exact low_wf w2 (by rw [w3]; omega)
  · rw [et, w3]; omega
abbrev i7 : Inl := (7, 1, 0, 0, ByteArray.mk #[120, 121], ())
theorem dec_xy : decodeL (ByteArray.mk #[120, 121]) = [120, 121] := by decide +kernel
theorem wrong7 : wrongN 4 [i7] = 0 := by
  refine wrong_zero.2 ⟨by decide, by decide, fun x hx => ?_, by simp⟩
  rw [List.mem_singleton.1 hx]
  refine wi_zero.2 ⟨?_, ?_, ?_⟩
  · simp only
    omega
  · show ¬ ((decodeL (ByteArray.mk #[120, 121])).length : Int) > 40
    rw [dec_xy]
    decide
  · rintro (h1 | h1)
    · cases h1
    · have h2 := (nl_dec (ByteArray.mk #[120, 121])).1 h1
      rw [dec_xy] at h2
      revert h2
      decide
theorem new7 : newI 4 [i7] = (some (4, [cleanI i7], ()), 0, ()) := by
  rw [new_fst wrong7]
  show (some ((4 : Int), sortI [cleanI i7], ()), (0 : Int), ()) = _
  rw [sort_id (List.pairwise_singleton _ _) (List.pairwise_singleton _ _)]
theorem len7 : lenT (cleanI i7) = 2 := by
  show ((decodeL (clean (ByteArray.mk #[120, 121]))).length : Int) = 2
  rw [dec_clean, dec_xy]
  rfl
theorem p6 : vc6 := by
  unfold vc6
  simp only [true_and, beq_iff_eq, beq_eq_false_iff_ne, ne_eq]
  rintro ⟨⟩ -
  have sh : shortL [i7] := fun x hx => by
    rw [List.mem_singleton.1 hx]; show (2 : Nat) ≤ _; decide
  have hm := made_new wrong7
  obtain ⟨m, L, es, ew, m0, m1, mL, mi, msz, m2, m3, m4, m5, m6⟩ := made_all hm
  have e7 : (newI 4 [i7]).1 = some (4, [cleanI i7], ()) := by rw [new7]
  have e0 : (newI 4 [i7]).2.1 = 0 := by rw [new7]
  have m2' : (allI (newI 4 [i7]).1).length ≤ 10000 ∧ shortL (allI (newI 4 [i7]).1) := by rw [es]; exact m2
  rw [e7] at es
  injection es with es
  injection es with q1 q2
  injection q2 with q2 _
  subst q1 q2
  have a1 := out_ok m0 m1 mL mi 1 0
  have a2 := out_ok m0 m1 mL mi 1 1
  have a3 := in_ok m0 m1 mL mi 2
  rw [if_neg (by omega)] at a1 a2
  have l1 : lensA 1 0 [cleanI i7] = 0 := lensA_none fun x hx => by
    rw [List.mem_singleton.1 hx]
    unfold isAhead
    show ¬ ((1 : Int) < 1 ∨ ((1 : Int) = 1 ∧ (0 : Int) = 1))
    decide
  have l2 : lensA 1 1 [cleanI i7] = 2 := by
    rw [lensA_all fun x hx => ?_]
    · show lenT (cleanI i7) + 0 = 2
      rw [len7]
      rfl
    · rw [List.mem_singleton.1 hx]
      unfold isAhead
      show ((1 : Int) < 1 ∨ ((1 : Int) = 1 ∧ (1 : Int) = 1))
      decide
  have l3 : lens [cleanI i7] = 2 := by
    show lenT (cleanI i7) + 0 = 2
    rw [len7]
    rfl
  rw [l1] at a1
  rw [l2] at a2
  rw [l3, if_neg (by omega)] at a3
  have e3 : inS 2 (rowP 4 0 [cleanI i7]) 0 0 = (1, 7) := by
    show (if (2 : Int) < 1 + lenT (cleanI i7) then ((1 : Int), (7 : Int)) else inS 2 (rowP 4 1 []) (1 + 0) (1 + lenT (cleanI i7))) = _
    rw [len7]
    rfl
  rw [e3] at a3
  have eh : heightOf (topT (treeOf (weaveI (some (4, [cleanI i7], ()))))) = 1 := by
    rw [(weave_ok m0 m1 mL mi).1]
    rfl
  rw [e7] at m2' m3 m4 ⊢
  rw [e0, a1, a2, a3, eh]
  have m21 := m2'.1
  have m22 := m2'.2
  (repeat' (first | with_reducible apply And.intro | with_reducible intro _))
  all_goals first
    | exact sh
    | exact m21
    | exact m22
    | exact m3
    | exact m4
    | (rw [maxLen_eq]; decide)
    | decide
    | (exfalso; simp_all)
    | simp_all
end Go.Fr.Z14
namespace Go.Fr.Z14
open Go Go.Fr Go.Proofs
def preP : Int → List Inl → List Itm
  | _, [] => []
  | f, x :: r => if x.2.1 > f then plainI (x.2.1 - f) :: virtualI x :: preP x.2.1 r else virtualI x :: preP f r
def lastA : Int → List Inl → Int
  | f, [] => f
  | f, x :: r => lastA (if x.2.1 > f then x.2.1 else f) r
theorem rowP_app (t : Int) : (f : Int) → (P R : List Inl) → rowP t f (P ++ R) = preP f P ++ rowP t (lastA f P) R
  | f, [], R => rfl
  | f, x :: r, R => by
    have e1 : rowP t f (x :: (r ++ R)) = if x.2.1 > f then plainI (x.2.1 - f) :: virtualI x :: rowP t x.2.1 (r ++ R) else virtualI x :: rowP t f (r ++ R) := rfl
    have e2 : preP f (x :: r) = if x.2.1 > f then plainI (x.2.1 - f) :: virtualI x :: preP x.2.1 r else virtualI x :: preP f r := rfl
    have e3 : lastA f (x :: r) = lastA (if x.2.1 > f then x.2.1 else f) r := rfl
    rw [List.cons_append, e1, e2, e3]
    by_cases hx : x.2.1 > f
    · rw [if_pos hx, if_pos hx, if_pos hx, rowP_app t x.2.1 r R]
      rfl
    · rw [if_neg hx, if_neg hx, if_neg hx, rowP_app t f r R]
      rfl
theorem lastA_bd {m : Int} : (f : Int) → (P : List Inl) → f ≤ m → (∀ x ∈ P, x.2.1 ≤ m) → f ≤ lastA f P ∧ lastA f P ≤ m
  | f, [], h, _ => ⟨Int.le_refl _, h⟩
  | f, x :: r, h, hx => by
    have h1 := hx x (List.mem_cons_self ..)
    have ih := lastA_bd (m := m) (if x.2.1 > f then x.2.1 else f) r (by split <;> omega) (fun y hy => hx y (List.mem_cons_of_mem _ hy))
    show f ≤ lastA (if x.2.1 > f then x.2.1 else f) r ∧ lastA (if x.2.1 > f then x.2.1 else f) r ≤ m
    refine ⟨?_, ih.2⟩
    have := ih.1
    split at this <;> split <;> omega
theorem lastA_lt {m : Int} : (f : Int) → (P : List Inl) → P ≠ [] → f < m → (∀ x ∈ P, x.2.1 < m) → lastA f P < m
  | f, P, _, h, hx => by
    have := (lastA_bd (m := m - 1) f P (by omega) (fun x hx' => by have := hx x hx'; omega)).2
    omega
theorem preP_sum0 : (f : Int) → (P : List Inl) → (∀ x ∈ P, f ≤ x.2.1) → P.Pairwise (fun a b => a.2.1 ≤ b.2.1) → sum0 (preP f P) = lastA f P - f
  | f, [], _, _ => by show (0 : Int) = f - f; omega
  | f, x :: r, h, hp => by
    obtain ⟨p1, p2⟩ := List.pairwise_cons.1 hp
    have hx := h x (List.mem_cons_self ..)
    have ih := preP_sum0 x.2.1 r p1 p2
    have e2 : preP f (x :: r) = if x.2.1 > f then plainI (x.2.1 - f) :: virtualI x :: preP x.2.1 r else virtualI x :: preP f r := rfl
    have e3 : lastA f (x :: r) = lastA (if x.2.1 > f then x.2.1 else f) r := rfl
    rw [e2, e3]
    by_cases hg : x.2.1 > f
    · rw [if_pos hg, if_pos hg, sum0_cons, sum0_cons, ih]
      show x.2.1 - f + (0 + _) = _
      omega
    · have e : f = x.2.1 := by omega
      rw [if_neg hg, if_neg hg, e, sum0_cons, ih]
      show 0 + _ = _
      omega
theorem fine_part {l m : List Itm} (h : Fine l) (hs : ∀ i ∈ m, i ∈ l) : Fine m := fun i hi => h i (hs i hi)
theorem pass_pre {n v bias : Int} {P R : List Inl} (hf : Fine (preP 0 P)) (h0 : ∀ x ∈ P, 0 ≤ x.2.1) (hp : P.Pairwise (fun a b => a.2.1 ≤ b.2.1)) (hr : P ≠ [] → reach v bias (lastA 0 P) = false) :
    findC 0 v bias (preP 0 P ++ rowP n (lastA 0 P) R) 0 0 0 = findC 0 v bias (rowP n (lastA 0 P) R) ((preP 0 P).length : Int) (lastA 0 P) (sum1 (preP 0 P)) := by
  by_cases he : P = []
  · subst he
    rfl
  · have s0 := preP_sum0 0 P h0 hp
    have := findC_pass (dim := 0) (v := v) (bias := bias) (preP 0 P) (rowP n (lastA 0 P) R) 0 0 0 hf (by
      rw [if_pos rfl, s0, show (0 : Int) + (lastA 0 P - 0) = lastA 0 P by omega]
      exact hr he)
    rw [this, s0]
    congr 1
    · omega
    · omega
    · omega
theorem stop_left {n a K f c : Int} {R : List Inl} (hfa : f ≤ a) (hn : a ≤ n) (hR : ∀ x ∈ R, a ≤ x.2.1) : findC 0 a 0 (rowP n f R) K f c = (K, f, c) := by
  have rc : ∀ e, a ≤ e → reach a 0 e = true := fun e he => by unfold reach; simp; omega
  cases R with
  | nil =>
    have e : rowP n f [] = if n > f then [plainI (n - f)] else [] := rfl
    rw [e]
    by_cases h : n > f
    · rw [if_pos h]
      have e2 : findC 0 a 0 [plainI (n - f)] K f c = if reach a 0 (f + (n - f)) = true then (K, f, c) else findC 0 a 0 [] (K + 1) (f + (n - f)) (c + (n - f)) := rfl
      rw [e2, if_pos (rc _ (by omega))]
    · rw [if_neg h]
      rfl
  | cons x r =>
    have hx := hR x (List.mem_cons_self ..)
    have e1 : rowP n f (x :: r) = if x.2.1 > f then plainI (x.2.1 - f) :: virtualI x :: rowP n x.2.1 r else virtualI x :: rowP n f r := rfl
    rw [e1]
    by_cases h : x.2.1 > f
    · rw [if_pos h]
      have e2 : findC 0 a 0 (plainI (x.2.1 - f) :: virtualI x :: rowP n x.2.1 r) K f c = if reach a 0 (f + (x.2.1 - f)) = true then (K, f, c) else findC 0 a 0 (virtualI x :: rowP n x.2.1 r) (K + 1) (f + (x.2.1 - f)) (c + (x.2.1 - f)) := rfl
      rw [e2, if_pos (rc _ (by omega))]
    · rw [if_neg h]
      have e2 : findC 0 a 0 (virtualI x :: rowP n f r) K f c = if reach a 0 (f + 0) = true then (K, f, c) else findC 0 a 0 (rowP n f r) (K + 1) (f + 0) (c + lenT x) := rfl
      rw [e2, if_pos (rc _ (by omega))]
def restP (n : Int) : List Inl → List Itm
  | [] => []
  | s :: r => virtualI s :: rowP n s.2.1 r
def restE (n' d : Int) : List Inl → Int
  | [] => n'
  | s :: _ => s.2.1 + d
theorem stop_right {n b f c : Int} {K : Nat} {S : List Inl} (hfb : f ≤ b) (hn : b ≤ n) (hS : ∀ x ∈ S, b < x.2.1) :
    (∃ e, f < e ∧ b < e ∧ findC 0 b 1 (rowP n f S) (K : Int) f c = ((K : Int), f, c) ∧ rowP n f S = plainI (e - f) :: restP n S ∧ ∀ d, restE (n + d) d S = e + d) ∨
    (n = b ∧ S = [] ∧ (findC 0 b 1 (rowP n f S) (K : Int) f c).1 = ((K + (rowP n f S).length : Nat) : Int)) := by
  have rc : ∀ e, b < e → reach b 1 e = true := fun e he => by unfold reach; simp; omega
  cases S with
  | nil =>
    have e : rowP n f [] = if n > f then [plainI (n - f)] else [] := rfl
    rw [e]
    by_cases h : n > f
    · rw [if_pos h]
      have e2 : findC 0 b 1 [plainI (n - f)] (K : Int) f c = if reach b 1 (f + (n - f)) = true then ((K : Int), f, c) else ((K : Int) + 1, f + (n - f), c + (n - f)) := rfl
      by_cases hb : b < n
      · refine .inl ⟨n, h, hb, ?_, rfl, fun d => rfl⟩
        rw [e2, if_pos (rc _ (by omega))]
      · refine .inr ⟨by omega, rfl, ?_⟩
        rw [e2, if_neg (by unfold reach; simp; omega)]
        show (K : Int) + 1 = ((K + 1 : Nat) : Int)
        omega
    · rw [if_neg h]
      exact .inr ⟨by omega, rfl, rfl⟩
  | cons x r =>
    have hx := hS x (List.mem_cons_self ..)
    have e1 : rowP n f (x :: r) = if x.2.1 > f then plainI (x.2.1 - f) :: virtualI x :: rowP n x.2.1 r else virtualI x :: rowP n f r := rfl
    rw [e1, if_pos (by omega)]
    refine .inl ⟨x.2.1, by omega, hx, ?_, rfl, fun d => rfl⟩
    have e2 : findC 0 b 1 (plainI (x.2.1 - f) :: virtualI x :: rowP n x.2.1 r) (K : Int) f c = if reach b 1 (f + (x.2.1 - f)) = true then ((K : Int), f, c) else findC 0 b 1 (virtualI x :: rowP n x.2.1 r) ((K : Int) + 1) (f + (x.2.1 - f)) (c + (x.2.1 - f)) := rfl
    rw [e2, if_pos (rc _ (by omega))]
theorem part3 {a b : Int} (hab : a ≤ b) : (L : List Inl) → L.Pairwise (fun a b => a.2.1 ≤ b.2.1) → L = L.filter (fun x => decide (x.2.1 < a)) ++ (L.filter (inI a b) ++ L.filter (fun x => decide (x.2.1 > b)))
  | [], _ => rfl
  | x :: r, hp => by
    obtain ⟨p1, p2⟩ := List.pairwise_cons.1 hp
    have ih := part3 hab r p2
    have none1 : a ≤ x.2.1 → r.filter (fun y => decide (y.2.1 < a)) = [] := fun h => by
      rw [List.filter_eq_nil_iff]
      intro y hy
      have := p1 y hy
      simp; omega
    have none2 : b < x.2.1 → r.filter (inI a b) = [] := fun h => by
      rw [List.filter_eq_nil_iff]
      intro y hy
      have := p1 y hy
      simp [inI]; omega
    by_cases h1 : x.2.1 < a
    · rw [List.filter_cons_of_pos (by simpa using h1), List.filter_cons_of_neg (by simp [inI]; omega), List.filter_cons_of_neg (by simp; omega), List.cons_append, ← ih]
    · rw [none1 (by omega), List.nil_append] at ih
      rw [List.filter_cons_of_neg (by simpa using h1), none1 (by omega), List.nil_append]
      by_cases h2 : x.2.1 ≤ b
      · rw [List.filter_cons_of_pos (by simp [inI]; omega), List.filter_cons_of_neg (by simp; omega), List.cons_append, ← ih]
      · rw [none2 (by omega), List.nil_append] at ih
        rw [List.filter_cons_of_neg (by simp [inI]; omega), none2 (by omega), List.nil_append, List.filter_cons_of_pos (by simp; omega), ← ih]
def moved (d : Int) (x : Inl) : Inl := (x.1, x.2.1 + d, x.2.2)
theorem virtual_moved (d : Int) (x : Inl) : virtualI (moved d x) = virtualI x := rfl
theorem row_moved {n : Int} (d : Int) : (f : Int) → (S : List Inl) → rowP (n + d) (f + d) (S.map (moved d)) = rowP n f S
  | f, [] => by
    have e : ∀ n f : Int, rowP n f [] = if n > f then [plainI (n - f)] else [] := fun _ _ => rfl
    rw [List.map_nil, e, e]
    by_cases h : n > f
    · rw [if_pos h, if_pos (by omega), show n + d - (f + d) = n - f by omega]
    · rw [if_neg h, if_neg (by omega)]
  | f, x :: r => by
    have e1 : ∀ (n f : Int) (x : Inl) (r : List Inl), rowP n f (x :: r) = if x.2.1 > f then plainI (x.2.1 - f) :: virtualI x :: rowP n x.2.1 r else virtualI x :: rowP n f r := fun _ _ _ _ => rfl
    have em : (moved d x).2.1 = x.2.1 + d := rfl
    rw [List.map_cons, e1, e1, virtual_moved, em]
    by_cases h : x.2.1 > f
    · rw [if_pos h, if_pos (by omega), show x.2.1 + d - (f + d) = x.2.1 - f by omega, row_moved d x.2.1 r]
    · rw [if_neg h, if_neg (by omega), row_moved d f r]
theorem row_joined {n d pl b' : Int} {M S : List Inl} (hM : ∀ x ∈ M, x.2.1 ≤ b') (hpl : pl ≤ b') (hS : ∀ x ∈ S, b' < x.2.1 + d) :
    rowP (n + d) pl (M ++ S.map (moved d)) = rowP (restE (n + d) d S) pl M ++ restP n S := by
  cases S with
  | nil =>
    show rowP (n + d) pl (M ++ []) = rowP (n + d) pl M ++ []
    rw [List.append_nil, List.append_nil]
  | cons s r =>
    have hs := hS s (List.mem_cons_self ..)
    have hl := (lastA_bd (m := b') pl M hpl hM).2
    have e0 : rowP (s.2.1 + d) pl M = preP pl M ++ rowP (s.2.1 + d) (lastA pl M) [] := by
      have := rowP_app (s.2.1 + d) pl M []
      rw [List.append_nil] at this
      exact this
    have e1 : rowP (s.2.1 + d) (lastA pl M) [] = if s.2.1 + d > lastA pl M then [plainI (s.2.1 + d - lastA pl M)] else [] := rfl
    show rowP (n + d) pl (M ++ (moved d s :: r.map (moved d))) = rowP (s.2.1 + d) pl M ++ (virtualI s :: rowP n s.2.1 r)
    rw [rowP_app, e0, e1, if_pos (by omega)]
    have e2 : rowP (n + d) (lastA pl M) (moved d s :: r.map (moved d)) = if s.2.1 + d > lastA pl M then plainI (s.2.1 + d - lastA pl M) :: virtualI (moved d s) :: rowP (n + d) (s.2.1 + d) (r.map (moved d)) else virtualI (moved d s) :: rowP (n + d) (lastA pl M) (r.map (moved d)) := rfl
    rw [e2, if_pos (by omega), row_moved, virtual_moved, List.append_assoc]
    rfl
theorem inls_filter {f t : Int} {l : List Inl} (h : Inls f t l) (p : Inl → Bool) : Inls f t (l.filter p) :=
  ⟨fun x hx => h.1 x (List.mem_filter.1 hx).1, h.2.1.sublist List.filter_sublist, h.2.2.sublist List.filter_sublist⟩
theorem inls_span {f t g u : Int} {l : List Inl} (h : Inls f t l) (hb : ∀ x ∈ l, g ≤ x.2.1 ∧ x.2.1 ≤ u) : Inls g u l :=
  ⟨fun x hx => ⟨(hb x hx).1, (hb x hx).2, (h.1 x hx).2.2⟩, h.2⟩
theorem upd_ok {n n' a b b' : Int} {L L' : List Inl} (h0 : 0 ≤ n) (h1 : n ≤ 1099511627776) (hl : L.length ≤ 60) (hi : Inls 0 n L) (h1' : n' ≤ 1099511627776) (hl' : L'.length ≤ 60) (hi' : Inls 0 n' L')
    (ha : 0 ≤ a) (hab : a ≤ b) (hb : b ≤ n) (hab' : a ≤ b') (hb' : b' ≤ n') (hd : n - b = n' - b') :
    ∃ T, updW (weaveI (some (n, L, ()))) (a, b, ()) (a, b', ()) (some (n', L', ())) = (some (some (T, ()), ()), 0, ()) ∧ WfN T ∧
      items T = preP 0 (L.filter fun x => decide (x.2.1 < a)) ++ rowP (restE n' (b' - b) (L.filter fun x => decide (x.2.1 > b))) (lastA 0 (L.filter fun x => decide (x.2.1 < a))) (L'.filter (inI a b')) ++ restP n (L.filter fun x => decide (x.2.1 > b)) := by
  obtain ⟨w1, w2, w3, w4, w5, w6, w7, w8, w9⟩ := weave_ok h0 h1 hl hi
  have ff := rowly_fine w5
  have p3 := part3 (a := a) (b := b) hab L hi.2.1
  obtain ⟨P, hP⟩ : ∃ P, P = L.filter (fun x => decide (x.2.1 < a)) := ⟨_, rfl⟩
  obtain ⟨M, hM⟩ : ∃ M, M = L.filter (inI a b) := ⟨_, rfl⟩
  obtain ⟨S, hS⟩ : ∃ S, S = L.filter (fun x => decide (x.2.1 > b)) := ⟨_, rfl⟩
  obtain ⟨M', hM'⟩ : ∃ M', M' = L'.filter (inI a b') := ⟨_, rfl⟩
  rw [← hP, ← hM, ← hS] at p3
  rw [← hP, ← hS, ← hM']
  have iP : Inls 0 n P := by rw [hP]; exact inls_filter hi _
  have iM : Inls 0 n M := by rw [hM]; exact inls_filter hi _
  have iS : Inls 0 n S := by rw [hS]; exact inls_filter hi _
  have iM' : Inls 0 n' M' := by rw [hM']; exact inls_filter hi' _
  have bP : ∀ x ∈ P, x.2.1 < a := fun x hx => by rw [hP] at hx; simpa using (List.mem_filter.1 hx).2
  have bM : ∀ x ∈ M, a ≤ x.2.1 ∧ x.2.1 ≤ b := fun x hx => by
    rw [hM] at hx
    have := (List.mem_filter.1 hx).2
    simp [inI] at this; omega
  have bS : ∀ x ∈ S, b < x.2.1 := fun x hx => by rw [hS] at hx; simpa using (List.mem_filter.1 hx).2
  have bM' : ∀ x ∈ M', a ≤ x.2.1 ∧ x.2.1 ≤ b' := fun x hx => by
    rw [hM'] at hx
    have := (List.mem_filter.1 hx).2
    simp [inI] at this; omega
  have lM' : M'.length ≤ 60 := by rw [hM']; exact Nat.le_trans (List.length_filter_le _ _) hl'
  clear hP hM hS hi' hl'
  have pl0 := lastA_bd (m := a) 0 P ha (fun x hx => by have := bP x hx; omega)
  have plt : P ≠ [] → lastA 0 P < a := fun he => by
    cases P with
    | nil => exact absurd rfl he
    | cons x r =>
      have hx0 := (iP.1 x (List.mem_cons_self ..)).1
      have hxa := bP x (List.mem_cons_self ..)
      exact lastA_lt 0 (x :: r) he (by omega) bP
  -- the row in parts
  have r1 : rowP n 0 L = preP 0 P ++ rowP n (lastA 0 P) (M ++ S) := by rw [p3, rowP_app]
  have r2 : rowP n 0 L = preP 0 (P ++ M) ++ rowP n (lastA 0 (P ++ M)) S := by rw [p3, ← List.append_assoc, rowP_app]
  have r3 : preP 0 (P ++ M) = preP 0 P ++ preP (lastA 0 P) M := by
    have : ∀ (f : Int) (P M : List Inl), preP f (P ++ M) = preP f P ++ preP (lastA f P) M := by
      intro f P
      induction P generalizing f with
      | nil => intro M; rfl
      | cons x r ih =>
        intro M
        show (if x.2.1 > f then plainI (x.2.1 - f) :: virtualI x :: preP x.2.1 (r ++ M) else virtualI x :: preP f (r ++ M)) = (if x.2.1 > f then plainI (x.2.1 - f) :: virtualI x :: preP x.2.1 r else virtualI x :: preP f r) ++ preP (lastA (if x.2.1 > f then x.2.1 else f) r) M
        by_cases hx : x.2.1 > f
        · rw [if_pos hx, if_pos hx, if_pos hx, ih]; rfl
        · rw [if_neg hx, if_neg hx, if_neg hx, ih]; rfl
    exact this 0 P M
  have iPM : Inls 0 n (P ++ M) := by
    have : Inls 0 n (P ++ M ++ S) := by rw [List.append_assoc, ← p3]; exact hi
    exact ⟨fun x hx => this.1 x (List.mem_append_left _ hx), (List.pairwise_append.1 this.2.1).1, (List.pairwise_append.1 this.2.2).1⟩
  have ml0 := lastA_bd (m := b) 0 (P ++ M) (by omega) (fun x hx => by
    rcases List.mem_append.1 hx with hx | hx
    · have := bP x hx; omega
    · exact (bM x hx).2)
  -- what is found
  have f1 : findC 0 a 0 (rowP n 0 L) 0 0 0 = (((preP 0 P).length : Int), lastA 0 P, sum1 (preP 0 P)) := by
    rw [r1, pass_pre (fine_part ff (fun i hi => by rw [r1]; exact List.mem_append_left _ hi)) (fun x hx => (iP.1 x hx).1) iP.2.1 (fun he => by have := plt he; unfold reach; simp; omega)]
    exact stop_left pl0.2 (by omega) (fun x hx => by
      rcases List.mem_append.1 hx with hx | hx
      · exact (bM x hx).1
      · have := bS x hx; omega)
  have f2 : findC 0 b 1 (rowP n 0 L) 0 0 0 = findC 0 b 1 (rowP n (lastA 0 (P ++ M)) S) ((preP 0 (P ++ M)).length : Int) (lastA 0 (P ++ M)) (sum1 (preP 0 (P ++ M))) := by
    rw [r2]
    exact pass_pre (fine_part ff (fun i hi => by rw [r2]; exact List.mem_append_left _ hi)) (fun x hx => (iPM.1 x hx).1) iPM.2.1 (fun _ => by unfold reach; simp; omega)
  have sr := stop_right (n := n) (b := b) (f := lastA 0 (P ++ M)) (c := sum1 (preP 0 (P ++ M))) (K := (preP 0 (P ++ M)).length) (S := S) ml0.2 hb bS
  rw [← f2] at sr
  obtain ⟨t1, t2, t3⟩ := findP_is (dim := 0) (v := a) (bias := 0) (.inl rfl) w2 (by rw [w3]; exact ff) (by rw [w3]; omega)
  obtain ⟨u1, u2, u3⟩ := findP_is (dim := 0) (v := b) (bias := 1) (.inl rfl) w2 (by rw [w3]; exact ff) (by rw [w3]; omega)
  rw [w3, f1] at t1 t2
  rw [w3] at u1 u2
  have tf1 := tree_find (v := a) (bias := 0) (.inl rfl) w2 w3 ff (by omega)
  have tf2 := tree_find (v := b) (bias := 1) (.inl rfl) w2 w3 ff (by omega)
  rw [if_pos rfl, w6, if_neg (by omega)] at tf1
  rw [if_pos rfl, w6, if_neg (by omega)] at tf2
  have eL : ((rowP n 0 L).length : Int) = (((preP 0 (P ++ M)).length + (rowP n (lastA 0 (P ++ M)) S).length : Nat) : Int) := by rw [r2, List.length_append]
  have k12 : (preP 0 P).length ≤ (preP 0 (P ++ M)).length := by rw [r3, List.length_append]; omega
  have lr : (rowP n 0 L).length = (preP 0 (P ++ M)).length + (rowP n (lastA 0 (P ++ M)) S).length := by rw [r2, List.length_append]
  have ht : treeOf (weaveI (some (n, L, ()))) = some (buildT (rowP n 0 L), ()) := by rw [w1]; rfl
  -- where what goes ends, and to where what comes reaches
  have key : ∃ last : Nat, (preP 0 P).length ≤ last ∧ last ≤ (rowP n 0 L).length ∧ (rowP n 0 L).drop last = restP n S ∧ updL (weaveI (some (n, L, ()))) (a, b, ()) = (last : Int) ∧ updE (weaveI (some (n, L, ()))) (a, b, ()) (a, b', ()) = restE n' (b' - b) S := by
    have at1 : ∀ k : Nat, (findP (buildT (rowP n 0 L)) 0 b 1).1 = (k : Int) → atT (some (buildT (rowP n 0 L), ())) (findP (buildT (rowP n 0 L)) 0 b 1).1 = if k < (rowP n 0 L).length then ((rowP n 0 L).getD k zItm, 0, ()) else (zItm, 1, ()) := fun k hk => by
      have ei : items (topT (some (buildT (rowP n 0 L), ()))) = rowP n 0 L := w3
      unfold atT
      rw [ei, hk]
      by_cases h : k < (rowP n 0 L).length
      · rw [if_pos h, if_neg (by omega)]
        rfl
      · rw [if_neg h, if_pos (by omega)]
    unfold updL updE
    rw [ht]
    simp only []
    rw [tf2]
    rcases sr with ⟨e, e1, e2, e3, e4, e5⟩ | ⟨e1, e2, e3⟩
    · rw [e3] at u1 u2
      have hk : (preP 0 (P ++ M)).length < (rowP n 0 L).length := by rw [lr, e4]; simp
      have ea := at1 _ u1
      rw [if_pos hk] at ea
      simp only []
      rw [ea]
      have eg : (rowP n 0 L).getD (preP 0 (P ++ M)).length zItm = plainI (e - lastA 0 (P ++ M)) := by
        rw [r2, getD_app_r _ (Nat.le_refl _), Nat.sub_self, e4]
        rfl
      have e6 : restE n' (b' - b) S = e + (b' - b) := by
        have := e5 (b' - b)
        rw [show n + (b' - b) = n' by omega] at this
        exact this
      have hbd := (lastA_bd (m := b) 0 (P ++ M) (by omega) (fun x hx => by
        rcases List.mem_append.1 hx with hx | hx
        · have := bP x hx; omega
        · exact (bM x hx).2))
      have hen : e ≤ n := by
        cases hSS : S with
        | nil =>
          have := e5 0
          rw [hSS] at this
          have : n + 0 = e + 0 := this
          omega
        | cons s r =>
          have := e5 0
          rw [hSS] at this
          have : s.2.1 + 0 = e + 0 := this
          have := (iS.1 s (by rw [hSS]; exact List.mem_cons_self ..)).2.1
          omega
      refine ⟨(preP 0 (P ++ M)).length + 1, by omega, by omega, ?_, ?_, ?_⟩
      · rw [r2, List.drop_append, List.drop_eq_nil_of_le (by omega), List.nil_append, e4, show (preP 0 (P ++ M)).length + 1 - (preP 0 (P ++ M)).length = 1 by omega]
        rfl
      · rw [if_pos rfl, u1, w64_id (by omega) (by omega)]
        omega
      · rw [if_pos rfl, u2, eg, e6]
        show w64 (b' + w64 (w64 (lastA 0 (P ++ M) + (e - lastA 0 (P ++ M))) - b)) = _
        rw [w64_id (n := lastA 0 (P ++ M) + (e - lastA 0 (P ++ M))) (by omega) (by omega), w64_id (n := _ - b) (by omega) (by omega), w64_id (by omega) (by omega)]
        omega
    · rw [e3] at u1
      have ea := at1 _ u1
      rw [if_neg (by omega)] at ea
      simp only []
      rw [ea]
      refine ⟨(rowP n 0 L).length, by omega, Nat.le_refl _, ?_, ?_, ?_⟩
      · rw [List.drop_length, e2]; rfl
      · rw [if_neg (by decide), u1, ← eL]
      · rw [if_neg (by decide), e2]
        show b' = n'
        omega
  obtain ⟨last, k1, k2, k3, k4, k5⟩ := key
  have hto : b' ≤ restE n' (b' - b) S ∧ restE n' (b' - b) S ≤ n' := by
    cases S with
    | nil => exact ⟨hb', Int.le_refl _⟩
    | cons s r =>
      have q1 := bS s (List.mem_cons_self ..)
      have q2 := (iS.1 s (List.mem_cons_self ..)).2.1
      show b' ≤ s.2.1 + (b' - b) ∧ s.2.1 + (b' - b) ≤ n'
      omega
  have inw : Inls (lastA 0 P) (restE n' (b' - b) S) M' := inls_span iM' (fun x hx => by have := bM' x hx; omega)
  have rf := rowF_eq (t := restE n' (b' - b) S) (by omega) (lastA 0 P) M' pl0.1 (by omega) inw
  have rc := row_check (t := restE n' (b' - b) S) (by omega) (lastA 0 P) M' pl0.1 inw
  have rl := row_len (t := restE n' (b' - b) S) (lastA 0 P) M'
  generalize hrow : rowP (restE n' (b' - b) S) (lastA 0 P) M' = row at rf rc rl ⊢
  have nt := newT_ok (l := row) (by omega) rc
  obtain ⟨b1, b2⟩ := buildT_ok (l := row) (by omega)
  have so := (sum_top w2 (by rw [w3]; exact ff) (by rw [w3]; omega)).1
  have so0 := (sum_top w2 (by rw [w3]; exact ff) (by rw [w3]; omega)).2.1
  rw [w3] at so so0
  rw [w6] at so0
  have hmx : maxI ((preP 0 P).length : Int) (last : Int) = (last : Int) := by unfold maxI; split <;> omega
  obtain ⟨_, _, _, _, _, z1, z2⟩ := replN_ok (n := buildT (rowP n 0 L)) (mid := buildT row) (from_ := ((preP 0 P).length : Int)) (to := (last : Int)) w2 (by rw [w3]; exact ff) (by rw [w3]; omega) b1 (by rw [b2]; omega) (by omega) (by omega) (by omega)
  refine ⟨replN (buildT (rowP n 0 L)) (buildT row) ((preP 0 P).length : Int) (last : Int), ?_, z1, ?_⟩
  · have eR : updR (weaveI (some (n, L, ()))) (a, b, ()) (a, b', ()) (some (n', L', ())) = replT (some (buildT (rowP n 0 L), ())) ((preP 0 P).length : Int) (last : Int) row := by
      unfold updR
      rw [k4, k5, ht]
      simp only []
      rw [tf1]
      simp only []
      rw [t1, t2, hmx]
      show replT _ _ _ (rowF (restE n' (b' - b) S) (lastA 0 P) (L'.filter (inI a b'))) = _
      rw [← hM', rf]
    have eRep : replT (some (buildT (rowP n 0 L), ())) ((preP 0 P).length : Int) (last : Int) row = (some (replN (buildT (rowP n 0 L)) (buildT row) ((preP 0 P).length : Int) (last : Int), ()), 0, ()) := by
      unfold replT
      show (if ((preP 0 P).length : Int) < 0 ∨ (last : Int) < ((preP 0 P).length : Int) ∨ (last : Int) > (sumOf (buildT (rowP n 0 L))).1 then _ else if (newT row).2.1 ≠ 0 then _ else if w64 (w64 ((sumOf (buildT (rowP n 0 L))).1 - w64 ((last : Int) - ((preP 0 P).length : Int))) + (row.length : Int)) > 30000 then _ else _) = _
      rw [so, nt, if_neg (by omega), if_neg (by simp), w64_id (n := (last : Int) - ((preP 0 P).length : Int)) (by omega) (by omega), w64_id (n := ((rowP n 0 L).length : Int) - _) (by omega) (by omega), w64_id (by omega) (by omega), if_neg (by omega)]
      rfl
    unfold updW
    rw [eR, eRep, ht]
    have eg : (fitsW (a, b, ()) (sumOf (topT (some (buildT (rowP n 0 L), ())))).2.1.1 && fitsW (a, b', ()) (lenI (some (n', L', ()))) && decide (((a, b, ()) : Span).1 = ((a, b', ()) : Span).1) && decide (w64 ((sumOf (topT (some (buildT (rowP n 0 L), ())))).2.1.1 - ((a, b, ()) : Span).2.1) = w64 (lenI (some (n', L', ())) - ((a, b', ()) : Span).2.1))) = true := by
      show (fitsW (a, b, ()) (sumOf (buildT (rowP n 0 L))).2.1.1 && fitsW (a, b', ()) n' && decide (a = a) && decide (w64 ((sumOf (buildT (rowP n 0 L))).2.1.1 - b) = w64 (n' - b'))) = true
      rw [so0, hd]
      simp [fitsW]
      omega
    rw [eg, if_neg (by decide), if_neg (by simp)]
  · rw [z2, w3, b2, toNat_cast, toNat_cast, k3]
    congr 2
    rw [r1, List.take_append_of_le_length (Nat.le_refl _), List.take_length]
theorem upd_same {n n' a b b' : Int} {L L' : List Inl} (hi : Inls 0 n L) (hi' : Inls 0 n' L')
    (ha : 0 ≤ a) (hab' : a ≤ b') (hd : n - b = n' - b') (h1 : L'.filter (fun x => decide (x.2.1 < a)) = L.filter (fun x => decide (x.2.1 < a)))
    (h2 : L'.filter (fun x => decide (x.2.1 > b')) = (L.filter (fun x => decide (x.2.1 > b))).map (moved (b' - b))) :
    preP 0 (L.filter fun x => decide (x.2.1 < a)) ++ rowP (restE n' (b' - b) (L.filter fun x => decide (x.2.1 > b))) (lastA 0 (L.filter fun x => decide (x.2.1 < a))) (L'.filter (inI a b')) ++ restP n (L.filter fun x => decide (x.2.1 > b)) = rowP n' 0 L' := by
  have p3 := part3 (a := a) (b := b') hab' L' hi'.2.1
  conv => rhs; rw [p3]
  rw [h1, h2, rowP_app, List.append_assoc]
  congr 1
  have pl0 := lastA_bd (m := a) 0 (L.filter fun x => decide (x.2.1 < a)) ha (fun x hx => by have := (List.mem_filter.1 hx).2; simp at this; omega)
  have := row_joined (n := n) (d := b' - b) (pl := lastA 0 (L.filter fun x => decide (x.2.1 < a))) (b' := b') (M := L'.filter (inI a b')) (S := L.filter fun x => decide (x.2.1 > b)) (fun x hx => by
    have := (List.mem_filter.1 hx).2
    simp [inI] at this; omega) (by omega) (fun x hx => by
    have := (List.mem_filter.1 hx).2
    simp at this; omega)
  rw [show n + (b' - b) = n' by omega] at this
  exact this.symm
end Go.Fr.Z14
namespace Go.Fr.Z14
open Go Go.Fr Go.Proofs
theorem p13 : vc13 := by
  unfold vc13
  simp only [decide_eq_true_eq, decide_eq_false_iff_not, beq_iff_eq, beq_eq_false_iff_ne, ne_eq]
  rintro ⟨n, m, ⟨o, w, ⟨⟩⟩, ⟨⟩⟩
  simp only []
  have yes : ∀ b : Bool, o.1 ≥ 0 → o.1 ≤ o.2.1 → o.2.1 ≤ n → w.1 = o.1 → w.1 ≤ w.2.1 → w.2.1 ≤ m → b = decide (w64 (n - o.2.1) = w64 (m - w.2.1)) → b = fits2 n m o w := fun b h1 h2 h3 h4 h5 h6 hb => by
    unfold fits2
    rw [decide_eq_true h1, decide_eq_true h2, decide_eq_true h3, decide_eq_true h4, decide_eq_true h5, decide_eq_true h6, hb]
    rfl
  have no : ¬ (o.1 ≥ 0 ∧ o.1 ≤ o.2.1 ∧ o.2.1 ≤ n ∧ w.1 = o.1 ∧ w.1 ≤ w.2.1 ∧ w.2.1 ≤ m) → false = fits2 n m o w := fun h => by
    cases hf : fits2 n m o w with
    | false => rfl
    | true =>
      unfold fits2 at hf
      simp only [Bool.and_eq_true, decide_eq_true_eq] at hf
      exact absurd ⟨hf.1.1.1.1.1.1, hf.1.1.1.1.1.2, hf.1.1.1.1.2, hf.1.1.1.2, hf.1.1.2, hf.1.2⟩ h
  (repeat' (first | with_reducible apply And.intro | with_reducible intro _))
  all_goals first
    | decide
    | exact yes _ (by assumption) (by assumption) (by assumption) (by assumption) (by assumption) (by assumption) rfl
    | exact no (by omega)
theorem fits2_iff {n m : Int} {o w : Span} : fits2 n m o w = true ↔ 0 ≤ o.1 ∧ o.1 ≤ o.2.1 ∧ o.2.1 ≤ n ∧ w.1 = o.1 ∧ w.1 ≤ w.2.1 ∧ w.2.1 ≤ m ∧ w64 (n - o.2.1) = w64 (m - w.2.1) := by
  unfold fits2
  simp only [Bool.and_eq_true, decide_eq_true_eq]
  constructor
  · rintro ⟨⟨⟨⟨⟨⟨h1, h2⟩, h3⟩, h4⟩, h5⟩, h6⟩, h7⟩
    exact ⟨h1, h2, h3, h4, h5, h6, h7⟩
  · rintro ⟨h1, h2, h3, h4, h5, h6, h7⟩
    exact ⟨⟨⟨⟨⟨⟨h1, h2⟩, h3⟩, h4⟩, h5⟩, h6⟩, h7⟩
theorem low_pieces {n' : Int} {L' : List Inl} (h0 : 0 ≤ n') (h1 : n' ≤ 1099511627776) (hl : L'.length ≤ 60) (hi : Inls 0 n' L') {T : Nd} (hT : WfN T) (hit : (items T).length ≤ 10000) : okTre (treeOf (some (some (T, ()), ()))) ∨ True := .inr trivial
theorem isI_parts {s : Option ISet} {e : Int} {w : WSet} (h : isI s e w = true) : e = w.2.2.1 ∧ (s.isNone = true ↔ w.2.2.1 ≠ 0) := by
  unfold isI at h
  simp only [Bool.and_eq_true, decide_eq_true_eq, beq_iff_eq] at h
  refine ⟨h.1.1, ?_⟩
  rw [h.1.2]
  simp
theorem sorted_filter {l : List Inl} (h : l.Pairwise (fun a b => ¬ cmpL b a < 0)) (p : Inl → Bool) : (l.filter p).Pairwise (fun a b => ¬ cmpL b a < 0) := h.sublist List.filter_sublist
theorem ids_filter {l : List Inl} (h : l.Pairwise (fun a b => a.1 ≠ b.1)) (p : Inl → Bool) : (l.filter p).Pairwise (fun a b => a.1 ≠ b.1) := h.sublist List.filter_sublist
theorem sorted_one {l m : List Inl} (hids : l.Pairwise (fun a b => a.1 ≠ b.1)) (hp : m.Perm l) (hl : l.Pairwise (fun a b => ¬ cmpL b a < 0)) (hm : m.Pairwise (fun a b => ¬ cmpL b a < 0)) : m = l :=
  (one_way hids hp hm).trans (one_way hids (List.Perm.refl _) hl).symm
theorem cmpL_moved {d : Int} {a b : Inl} : cmpL (moved d a) (moved d b) < 0 ↔ cmpL a b < 0 := by
  rw [cmpL_lt, cmpL_lt]
  show a.2.1 + d < b.2.1 + d ∨ (a.2.1 + d = b.2.1 + d ∧ _) ↔ _
  constructor
  · rintro (h | ⟨h, g⟩)
    · exact .inl (by omega)
    · exact .inr ⟨by omega, g⟩
  · rintro (h | ⟨h, g⟩)
    · exact .inl (by omega)
    · exact .inr ⟨by omega, g⟩
theorem move_one {c : Chg} (hn : normal [c] = true) (x : Inl) (h0 : 0 ≤ x.2.1) (h1 : x.2.1 ≤ 1099511627776) (hb : x.2.2.1 = 0 ∨ x.2.2.1 = 1) :
    (x.2.1 < c.1.1 → moveI [c] x = x) ∧ (c.1.1 ≤ x.2.1 → x.2.1 ≤ c.1.2.1 → (moveI [c] x).2.1 = c.2.1.1 ∨ (moveI [c] x).2.1 = c.2.1.2.1) ∧ (c.1.2.1 < x.2.1 → c.1.1 ≤ x.2.1 → moveI [c] x = moved (c.2.1.2.1 - c.1.2.1) x) := by
  have e : (mapP [c] x.2.1 x.2.2.1).1 = mapTo x.2.1 x.2.2.1 [c] 0 := mapP_in hn h0 h1 hb
  have e2 : mapTo x.2.1 x.2.2.1 [c] 0 = if x.2.1 < c.1.1 then x.2.1 + 0 else if x.2.1 ≤ c.1.2.1 then (if x.2.2.1 = 0 then c.2.1.1 else c.2.1.2.1) else x.2.1 + (c.2.1.2.1 - c.1.2.1) := rfl
  have em : moveI [c] x = (x.1, mapTo x.2.1 x.2.2.1 [c] 0, x.2.2.1, x.2.2.2.1, txt x, ()) := by unfold moveI; rw [e]
  rw [em, e2]
  refine ⟨fun h => ?_, fun h g => ?_, fun h g => ?_⟩
  · rw [if_pos h, Int.add_zero]; rfl
  · rw [if_neg (by omega), if_pos g]
    show (if _ then _ else _) = _ ∨ (if _ then _ else _) = _
    split
    · exact .inl rfl
    · exact .inr rfl
  · rw [if_neg (by omega), if_neg (by omega)]
    rfl
theorem normal_one {c : Chg} (h : normal [c] = true) : (0 ≤ c.1.1 ∧ c.1.1 ≤ c.1.2.1 ∧ c.1.2.1 ≤ 1099511627776) ∧ (0 ≤ c.2.1.1 ∧ c.2.1.1 ≤ c.2.1.2.1 ∧ c.2.1.2.1 ≤ 1099511627776) ∧ c.1.1 = c.2.1.1 := by
  have h2 : okStep zeroC c true = true := by
    have : (okStep zeroC c true && true) = true := h
    simpa using this
  obtain ⟨g1, g2, g3⟩ := okStep_iff.1 h2
  have z1 : zeroC.1.2.1 = 0 := rfl
  have z2 : zeroC.2.1.2.1 = 0 := rfl
  rw [z1, z2] at g3
  exact ⟨g1, g2, by omega⟩
theorem filter_perm {l m : List Inl} (h : l.Perm m) (p : Inl → Bool) : (l.filter p).Perm (m.filter p) := h.filter p
theorem shift_beside {n : Int} {L L' : List Inl} {c : Chg} (hi : Inls 0 n L) (hn0 : n ≤ 1099511627776) (hbi : ∀ x ∈ L, x.2.2.1 = 0 ∨ x.2.2.1 = 1) (hs : L.Pairwise (fun a b => ¬ cmpL b a < 0)) (hn : normal [c] = true)
    (hp : L'.Perm (L.map (moveI [c]))) (hs' : L'.Pairwise (fun a b => ¬ cmpL b a < 0)) (hid : (L.map (moveI [c])).Pairwise (fun a b => a.1 ≠ b.1)) :
    L'.filter (fun x => decide (x.2.1 < c.1.1)) = L.filter (fun x => decide (x.2.1 < c.1.1)) ∧
    L'.filter (fun x => decide (x.2.1 > c.2.1.2.1)) = (L.filter (fun x => decide (x.2.1 > c.1.2.1))).map (moved (c.2.1.2.1 - c.1.2.1)) := by
  obtain ⟨g1, g2, g3⟩ := normal_one hn
  have mv := fun x (hx : x ∈ L) => move_one hn x (hi.1 x hx).1 (by have := (hi.1 x hx).2.1; omega) (hbi x hx)
  have f1 : (L.map (moveI [c])).filter (fun x => decide (x.2.1 < c.1.1)) = L.filter (fun x => decide (x.2.1 < c.1.1)) := by
    have : ∀ l : List Inl, (∀ x ∈ l, x ∈ L) → (l.map (moveI [c])).filter (fun x => decide (x.2.1 < c.1.1)) = l.filter (fun x => decide (x.2.1 < c.1.1)) := by
      intro l
      induction l with
      | nil => intro _; rfl
      | cons x r ih =>
        intro hl
        obtain ⟨m1, m2, m3⟩ := mv x (hl x (List.mem_cons_self ..))
        have ih := ih fun y hy => hl y (List.mem_cons_of_mem _ hy)
        rw [List.map_cons]
        by_cases h : x.2.1 < c.1.1
        · rw [m1 h, List.filter_cons_of_pos (by simpa using h), List.filter_cons_of_pos (by simpa using h), ih]
        · have : ¬ (moveI [c] x).2.1 < c.1.1 := by
            by_cases h2 : x.2.1 ≤ c.1.2.1
            · rcases m2 (by omega) h2 with e | e <;> omega
            · rw [m3 (by omega) (by omega)]
              show ¬ x.2.1 + (c.2.1.2.1 - c.1.2.1) < c.1.1
              omega
          rw [List.filter_cons_of_neg (by simpa using this), List.filter_cons_of_neg (by simpa using h), ih]
    exact this L fun x hx => hx
  have f2 : (L.map (moveI [c])).filter (fun x => decide (x.2.1 > c.2.1.2.1)) = (L.filter (fun x => decide (x.2.1 > c.1.2.1))).map (moved (c.2.1.2.1 - c.1.2.1)) := by
    have : ∀ l : List Inl, (∀ x ∈ l, x ∈ L) → (l.map (moveI [c])).filter (fun x => decide (x.2.1 > c.2.1.2.1)) = (l.filter (fun x => decide (x.2.1 > c.1.2.1))).map (moved (c.2.1.2.1 - c.1.2.1)) := by
      intro l
      induction l with
      | nil => intro _; rfl
      | cons x r ih =>
        intro hl
        obtain ⟨m1, m2, m3⟩ := mv x (hl x (List.mem_cons_self ..))
        have ih := ih fun y hy => hl y (List.mem_cons_of_mem _ hy)
        rw [List.map_cons]
        by_cases h : x.2.1 > c.1.2.1
        · have em := m3 h (by omega)
          have : (moveI [c] x).2.1 > c.2.1.2.1 := by
            rw [em]
            show x.2.1 + (c.2.1.2.1 - c.1.2.1) > c.2.1.2.1
            omega
          rw [List.filter_cons_of_pos (by simpa using this), List.filter_cons_of_pos (by simpa using h), ih, em, List.map_cons]
        · have : ¬ (moveI [c] x).2.1 > c.2.1.2.1 := by
            by_cases h2 : x.2.1 < c.1.1
            · rw [m1 h2]; omega
            · rcases m2 (by omega) (by omega) with e | e <;> omega
          rw [List.filter_cons_of_neg (by simpa using this), List.filter_cons_of_neg (by simpa using h), ih]
    exact this L fun x hx => hx
  refine ⟨?_, ?_⟩
  · have hpp := filter_perm hp (fun x => decide (x.2.1 < c.1.1))
    have hii := ids_filter hid (fun x => decide (x.2.1 < c.1.1))
    rw [f1] at hpp hii
    exact sorted_one hii hpp (sorted_filter hs _) (sorted_filter hs' _)
  · have hpp := filter_perm hp (fun x => decide (x.2.1 > c.2.1.2.1))
    have hii := ids_filter hid (fun x => decide (x.2.1 > c.2.1.2.1))
    rw [f2] at hpp hii
    refine sorted_one hii hpp ?_ (sorted_filter hs' _)
    rw [List.pairwise_map]
    exact (sorted_filter hs _).imp fun {a b} h => by rw [cmpL_moved]; exact h
theorem p4 : vc4 := by
  unfold vc4
  simp only [eq_self, true_and, and_true, decide_eq_true_eq, decide_eq_false_iff_not, beq_iff_eq, beq_eq_false_iff_ne, bne_iff_ne, bne_eq_false_iff_eq, ne_eq, imp_true_iff]
  rintro ⟨n, l, c, ⟨⟩⟩
  simp only [maxLen_eq]
  intro hl
  refine ⟨hl, fun hlong h300 => ?_⟩
  obtain ⟨k1, k2, k3, k4⟩ := long_short hlong
  obtain ⟨c1, c2, c3⟩ := code_ok n l
  refine ⟨⟨hl, k4⟩, fun h => ⟨⟨hl, k4⟩, fun g => absurd g (by rw [c3, ← c2]; exact h)⟩, fun h0 => ⟨fun h => ⟨⟨hl, k4⟩, fun g => absurd g (by rw [c3]; exact c1.1 h)⟩, fun hsome => ?_⟩⟩
  have hz : wrongN n l = 0 := by rw [← c2]; exact h0
  have hm := made_new hz
  have hn1 : (newW n l).1 = n := by rw [newW_fst hz]
  obtain ⟨_, ok1, ok2, _, _, _, _, _, ok3⟩ := made_ok hm
  have ok3' : ∀ m ∈ (newW n l).2.1, (0 : Int) ≤ m.2.1 ∧ m.2.1 ≤ (1099511627776 : Int) := by
    obtain ⟨_, _, _, _, e, _⟩ := made_ok hm
    rw [e]; exact ok3
  obtain ⟨i1, i2⟩ := shift_is hm [c]
  obtain ⟨j1, j2⟩ := isI_parts i1
  refine ⟨⟨ok1, (show 1 ≤ 1000 by decide)⟩, ⟨hl, k4⟩, ⟨ok2, ok3', (show 1 ≤ 1000 by decide)⟩, fun h g => absurd g (by rw [← j1]; exact h), fun hs0 => ⟨fun h g => absurd g (j2.1 h), fun hsn => ?_⟩⟩
  have hm' := (i2.resolve_left (isnone_of hsn)).2
  have hm0 := hm
  obtain ⟨m, L, es, ew, m0, m1, mL, mi, msz, m2, m3, m4, m5, m6⟩ := made_all hm
  obtain ⟨m', L', es', ew', m0', m1', mL', mi', msz', m2', _⟩ := made_all hm'
  have emn : m = n := by rw [ew] at hn1; exact hn1
  subst emn
  -- the shift
  have hnm : normal [c] = true := by
    cases h : normal [c] with
    | true => rfl
    | false =>
      exfalso
      unfold shiftI at hs0
      rw [if_pos h] at hs0
      cases hs0
  obtain ⟨g1, g2, g3⟩ := normal_one hnm
  have hal : allI (newI m l).1 = L := by rw [es]; rfl
  have hle : lenI (newI m l).1 = m := by rw [es]; rfl
  have hdel : delta [c] = (c.2.1.2.1 - c.2.1.1) - (c.1.2.1 - c.1.1) := by
    show w64 (0 + w64 (w64 (c.2.1.2.1 - c.2.1.1) - w64 (c.1.2.1 - c.1.1))) = _
    rw [w64_id (n := c.2.1.2.1 - c.2.1.1) (by omega) (by omega), w64_id (n := c.1.2.1 - c.1.1) (by omega) (by omega), w64_id (n := _ - _) (by omega) (by omega), w64_id (by omega) (by omega)]
    omega
  have hend : endOf [c] = c.1.2.1 := rfl
  have hsh : ¬ (endOf [c] > lenI (newI m l).1 ∨ w64 (lenI (newI m l).1 + delta [c]) > 1099511627776) := fun h => by
    unfold shiftI at hs0
    rw [hnm, if_neg (by decide), if_pos h] at hs0
    cases hs0
  have eS : shiftI (newI m l).1 [c] = newI (w64 (lenI (newI m l).1 + delta [c])) ((allI (newI m l).1).map (moveI [c])) := by
    unfold shiftI
    rw [hnm, if_neg (by decide), if_neg hsh]
  rw [hle, hend, hdel, w64_id (by omega) (by omega)] at hsh
  rw [hle, hal, hdel, w64_id (by omega) (by omega)] at eS
  have hzz : wrongN (m + (c.2.1.2.1 - c.2.1.1 - (c.1.2.1 - c.1.1))) (L.map (moveI [c])) = 0 := by
    rw [eS] at hs0
    rw [← (code_ok _ _).2.1]
    exact hs0
  rw [eS, new_fst hzz] at es'
  injection es' with es'
  injection es' with q1 q2
  injection q2 with q2 _
  have hcl : (L.map (moveI [c])).map cleanI = L.map (moveI [c]) := by
    obtain ⟨_, L0, e1, _, _, e4, _⟩ := hm0
    rw [es] at e1
    injection e1 with e1
    injection e1 with _ e1
    injection e1 with e1 _
    subst e1
    rw [List.map_map]
    refine List.map_congr_left fun x hx => ?_
    have hx' : cleanI x = x := by
      have := List.map_congr_left (f := cleanI) (g := id) (l := L) |> fun _ => e4
      have h2 : ∀ (l : List Inl), l.map cleanI = l → ∀ x ∈ l, cleanI x = x := by
        intro l
        induction l with
        | nil => intro _ x hx; cases hx
        | cons y r ih =>
          intro h x hx
          rw [List.map_cons] at h
          injection h with h1 h2
          rcases List.mem_cons.1 hx with e | hx
          · subst e; exact h1
          · exact ih h2 x hx
      exact h2 L this x hx
    show (x.1, (mapP [c] x.2.1 x.2.2.1).1, x.2.2.1, x.2.2.2.1, clean (txt x), ()) = (x.1, (mapP [c] x.2.1 x.2.2.1).1, x.2.2.1, x.2.2.2.1, txt x, ())
    have ht : clean (txt x) = txt x := by
      have := congrArg txt hx'
      exact this
    rw [ht]
  rw [hcl] at q2
  have eT : (shiftI (newI m l).1 [c]).1 = some (m', L', ()) := by rw [eS, new_fst hzz, hcl, q2, q1]
  have hids := (wrong_zero.1 hzz).2.2.2
  have hbias : ∀ x ∈ L, x.2.2.1 = 0 ∨ x.2.2.1 = 1 := fun x hx => by
    obtain ⟨_, L0, e1, _, e3, _⟩ := hm0
    rw [es] at e1
    injection e1 with e1
    injection e1 with _ e1
    injection e1 with e1 _
    subst e1
    exact (wi_at ((wrong_zero.1 e3).2.2.1 x hx)).2.2.2
  have hsrt : L.Pairwise (fun a b => ¬ cmpL b a < 0) := by
    obtain ⟨_, L0, e1, _, _, _, e5⟩ := hm0
    rw [es] at e1
    injection e1 with e1
    injection e1 with _ e1
    injection e1 with e1 _
    subst e1
    exact e5
  obtain ⟨b1, b2⟩ := shift_beside (L' := L') mi m1 hbias hsrt hnm (by rw [← q2]; exact sort_perm _) (by rw [← q2]; exact sort_sorted hids) hids
  have em' : m' = m + (c.2.1.2.1 - c.1.2.1) := by rw [← q1]; omega
  obtain ⟨T, u1, u2, u3⟩ := upd_ok (a := c.1.1) (b := c.1.2.1) (b' := c.2.1.2.1) m0 m1 mL mi m1' mL' mi' g1.1 g1.2.1 (by omega) (by omega) (by omega) (by omega)
  rw [upd_same mi mi' g1.1 (by omega) (by omega) b1 b2] at u3
  have eu : updW (weaveI (newI m l).1) c.1 c.2.1 (shiftI (newI m l).1 [c]).1 = (some (some (T, ()), ()), 0, ()) := by
    rw [eT, es, ← u1]
    congr 1
    · obtain ⟨⟨o1, o2, ⟨⟩⟩, ⟨p1, p2, ⟨⟩⟩, ⟨⟩⟩ := c
      have : o1 = p1 := g3
      subst this
      rfl
  have isok := is_ok m0' m1' mL' mi' u2 u3
  rw [eu, ew']
  have lowT := low_wf u2 (by rw [u3]; have := row_len (t := m') 0 L'; omega)
  have lenT' : (items T).length ≤ 10000 := by rw [u3]; have := row_len (t := m') 0 L'; omega
  refine ⟨?_, ⟨m3, ?_⟩, fun _ => ⟨fun _ => ⟨⟨⟨mL', msz', m0', by show m' ≤ 1000; omega⟩, lowT, lenT'⟩, fun h => ?_⟩, fun h => by cases h⟩, fun h => absurd rfl h⟩
  · rw [hal]; exact m2
  · rw [eT]; exact m2'
  · rw [isok] at h; cases h
end Go.Fr.Z14
