/-
  Conditions to be proved, function by function, printed by a program. Conditions: none.
-/
import Derived.Test.YtldninnfpindoaaDoorC01A
namespace Go.Fr.C01
open Go Go.Fr Go.Proofs
set_option maxRecDepth 100000

/- fn 3 -/
def hs3 : List (Nat × Nat × Hint) := [(0, 5, ⟨[.slot 3 t3, .slot 13 t3], [0, 11, 12], [], []⟩)]
def nm3 : List Nat := []
noncomputable def E3 : Env := env tab [(9, cAcute), (10, cSize), (11, cRSize), (12, cEncode), (13, cREncode)] [] gl hs3 nm3
def vc3 : Prop :=
 ∀ (x : List Int × Unit),
 List.length x.fst ≤ maxLen →
 (decide ((↑(List.length x.fst) : Int) > (1000 : Int)) = true → True ∧ true = true) ∧
 (decide ((↑(List.length x.fst) : Int) > (1000 : Int)) = false →
 ((0 : Int) = (0 : Int) ∧
 (0 : Int) = (0 : Int) ∧
 x.fst = x.fst ∧ x.fst = x.fst ∧ (↑(List.length x.fst) : Int) = (↑(List.length x.fst) : Int)) ∧
 ∃ (Z : Int × Int × Unit → Prop),
 ∃ (μ : Int × Int × Unit → Nat),
 Z ((0 : Int), (0 : Int), ()) ∧
 ∀ (a a_1 : Int),
 Z (a, a_1, ()) →
 (decide (a_1 < (↑(List.length x.fst) : Int)) = true →
 ((0 : Int) ≤ a_1 ∧ a_1 < (↑(List.length x.fst) : Int)) ∧
 True ∧
 True ∧
 ((sizeR (List.getD x.fst (Int.toNat a_1) (Ty.dflt t21)) !=
 sizeR (List.getD x.fst (Int.toNat a_1) (Ty.dflt t21))) =
 true →
 false = true) ∧
 ((sizeR (List.getD x.fst (Int.toNat a_1) (Ty.dflt t21)) !=
 sizeR (List.getD x.fst (Int.toNat a_1) (Ty.dflt t21))) =
 false →
 True ∧
 (IntKind.wrap IntKind.i64 (a_1 + (1 : Int)) =
 IntKind.wrap IntKind.i64 (a_1 + (1 : Int)) ∧
 IntKind.wrap IntKind.i64
 (a + sizeR (List.getD x.fst (Int.toNat a_1) (Ty.dflt t21))) =
 IntKind.wrap IntKind.i64
 (a + sizeR (List.getD x.fst (Int.toNat a_1) (Ty.dflt t21))) ∧
 x.fst = x.fst ∧
 x.fst = x.fst ∧
 (↑(List.length x.fst) : Int) = (↑(List.length x.fst) : Int)) ∧
 Z
 (IntKind.wrap IntKind.i64
 (a + sizeR (List.getD x.fst (Int.toNat a_1) (Ty.dflt t21))),
 IntKind.wrap IntKind.i64 (a_1 + (1 : Int)), ()) ∧
 μ
 (IntKind.wrap IntKind.i64
 (a + sizeR (List.getD x.fst (Int.toNat a_1) (Ty.dflt t21))),
 IntKind.wrap IntKind.i64 (a_1 + (1 : Int)), ()) <
 μ (a, a_1, ()))) ∧
 (decide (a_1 < (↑(List.length x.fst) : Int)) = false →
 List.length x.fst ≤ (1000000000 : Nat) ∧
 List.length x.fst ≤ (1000000000 : Nat) ∧
 ((ByteArray.toList (encode x.fst) == ByteArray.toList (encode x.fst)) = true →
 (((↑(ByteArray.size (encode x.fst)) : Int) == a) = true → True ∧ true = true) ∧
 (((↑(ByteArray.size (encode x.fst)) : Int) == a) = false → false = true)) ∧
 ((ByteArray.toList (encode x.fst) == ByteArray.toList (encode x.fst)) = false →
 false = true)))
theorem vcEq3 : fnVC E3 Tryd.f3 (bodyOf Tryd.f3) cUtfEncodes = vc3 := by kernel_rfl
/- fn 4 -/
def hs4 : List (Nat × Nat × Hint) := [(0, 7, ⟨[.slot 21 t3], [3, 19, 20], [], []⟩)]
def nm4 : List Nat := []
noncomputable def E4 : Env := env tab [(9, cAcute), (12, cEncode), (14, cDecode)] [] gl hs4 nm4
def vc4 : Prop :=
 ∀ (x : List Int × Unit),
 List.length x.fst ≤ maxLen →
 (decide ((↑(List.length x.fst) : Int) > (1000 : Int)) = true → True ∧ true = true) ∧
 (decide ((↑(List.length x.fst) : Int) > (1000 : Int)) = false →
 List.length x.fst ≤ (1000000000 : Nat) ∧
 ByteArray.size (encode x.fst) ≤ (1000000000 : Nat) ∧
 (((↑(List.length (decodeL (encode x.fst))) : Int) != (↑(List.length x.fst) : Int)) = true → false = true) ∧
 (((↑(List.length (decodeL (encode x.fst))) : Int) != (↑(List.length x.fst) : Int)) = false →
 ((0 : Int) = (0 : Int) ∧
 decodeL (encode x.fst) = decodeL (encode x.fst) ∧
 x.fst = x.fst ∧ (↑(List.length x.fst) : Int) = (↑(List.length x.fst) : Int)) ∧
 ∃ (Z : Int × Unit → Prop),
 ∃ (μ : Int × Unit → Nat),
 Z ((0 : Int), ()) ∧
 ∀ (a : Int),
 Z (a, ()) →
 (decide (a < (↑(List.length x.fst) : Int)) = true →
 ((0 : Int) ≤ a ∧ a < (↑(List.length x.fst) : Int)) ∧
 (decide (List.getD x.fst (Int.toNat a) (Ty.dflt t21) ≥ (0 : Int)) = true →
 (decide (List.getD x.fst (Int.toNat a) (Ty.dflt t21) ≤ (1114111 : Int)) = true →
 (decide (List.getD x.fst (Int.toNat a) (Ty.dflt t21) < (55296 : Int)) = true →
 ((0 : Int) ≤ a ∧ a < (↑(List.length (decodeL (encode x.fst))) : Int)) ∧
 ((List.getD (decodeL (encode x.fst)) (Int.toNat a) (Ty.dflt t21) !=
 List.getD x.fst (Int.toNat a) (Ty.dflt t21)) =
 true →
 false = true) ∧
 ((List.getD (decodeL (encode x.fst)) (Int.toNat a) (Ty.dflt t21) !=
 List.getD x.fst (Int.toNat a) (Ty.dflt t21)) =
 false →
 ((!true) = true →
 ((0 : Int) ≤ a ∧
 a < (↑(List.length (decodeL (encode x.fst))) : Int)) ∧
 ((List.getD (decodeL (encode x.fst)) (Int.toNat a)
 (Ty.dflt t21) !=
 (65533 : Int)) =
 true →
 false = true) ∧
 ((List.getD (decodeL (encode x.fst)) (Int.toNat a)
 (Ty.dflt t21) !=
 (65533 : Int)) =
 false →
 (IntKind.wrap IntKind.i64 (a + (1 : Int)) =
 IntKind.wrap IntKind.i64 (a + (1 : Int)) ∧
 decodeL (encode x.fst) = decodeL (encode x.fst) ∧
 x.fst = x.fst ∧
 (↑(List.length x.fst) : Int) =
 (↑(List.length x.fst) : Int)) ∧
 Z (IntKind.wrap IntKind.i64 (a + (1 : Int)), ()) ∧
 μ (IntKind.wrap IntKind.i64 (a + (1 : Int)), ()) <
 μ (a, ()))) ∧
 ((!true) = false →
 (IntKind.wrap IntKind.i64 (a + (1 : Int)) =
 IntKind.wrap IntKind.i64 (a + (1 : Int)) ∧
 decodeL (encode x.fst) = decodeL (encode x.fst) ∧
 x.fst = x.fst ∧
 (↑(List.length x.fst) : Int) =
 (↑(List.length x.fst) : Int)) ∧
 Z (IntKind.wrap IntKind.i64 (a + (1 : Int)), ()) ∧
 μ (IntKind.wrap IntKind.i64 (a + (1 : Int)), ()) <
 μ (a, ())))) ∧
 (decide (List.getD x.fst (Int.toNat a) (Ty.dflt t21) < (55296 : Int)) =
 false →
 (decide (List.getD x.fst (Int.toNat a) (Ty.dflt t21) > (57343 : Int)) =
 true →
 ((0 : Int) ≤ a ∧
 a < (↑(List.length (decodeL (encode x.fst))) : Int)) ∧
 ((List.getD (decodeL (encode x.fst)) (Int.toNat a) (Ty.dflt t21) !=
 List.getD x.fst (Int.toNat a) (Ty.dflt t21)) =
 true →
 false = true) ∧
 ((List.getD (decodeL (encode x.fst)) (Int.toNat a)
 (Ty.dflt t21) !=
 List.getD x.fst (Int.toNat a) (Ty.dflt t21)) =
 false →
 ((!decide
 (List.getD x.fst (Int.toNat a) (Ty.dflt t21) >
 (57343 : Int))) =
 true →
 ((0 : Int) ≤ a ∧
 a < (↑(List.length (decodeL (encode x.fst))) : Int)) ∧
 ((List.getD (decodeL (encode x.fst)) (Int.toNat a)
 (Ty.dflt t21) !=
 (65533 : Int)) =
 true →
 false = true) ∧
 ((List.getD (decodeL (encode x.fst)) (Int.toNat a)
 (Ty.dflt t21) !=
 (65533 : Int)) =
 false →
 (IntKind.wrap IntKind.i64 (a + (1 : Int)) =
 IntKind.wrap IntKind.i64 (a + (1 : Int)) ∧
 decodeL (encode x.fst) = decodeL (encode x.fst) ∧
 x.fst = x.fst ∧
 (↑(List.length x.fst) : Int) =
 (↑(List.length x.fst) : Int)) ∧
 Z (IntKind.wrap IntKind.i64 (a + (1 : Int)), ()) ∧
 μ (IntKind.wrap IntKind.i64 (a + (1 : Int)), ()) <
 μ (a, ()))) ∧
 ((!decide
 (List.getD x.fst (Int.toNat a) (Ty.dflt t21) >
 (57343 : Int))) =
 false →
 (IntKind.wrap IntKind.i64 (a + (1 : Int)) =
 IntKind.wrap IntKind.i64 (a + (1 : Int)) ∧
 decodeL (encode x.fst) = decodeL (encode x.fst) ∧
 x.fst = x.fst ∧
 (↑(List.length x.fst) : Int) =
 (↑(List.length x.fst) : Int)) ∧
 Z (IntKind.wrap IntKind.i64 (a + (1 : Int)), ()) ∧
 μ (IntKind.wrap IntKind.i64 (a + (1 : Int)), ()) <
 μ (a, ())))) ∧
 (decide (List.getD x.fst (Int.toNat a) (Ty.dflt t21) > (57343 : Int)) =
 false →
 ((!decide
 (List.getD x.fst (Int.toNat a) (Ty.dflt t21) >
 (57343 : Int))) =
 true →
 ((0 : Int) ≤ a ∧
 a < (↑(List.length (decodeL (encode x.fst))) : Int)) ∧
 ((List.getD (decodeL (encode x.fst)) (Int.toNat a)
 (Ty.dflt t21) !=
 (65533 : Int)) =
 true →
 false = true) ∧
 ((List.getD (decodeL (encode x.fst)) (Int.toNat a)
 (Ty.dflt t21) !=
 (65533 : Int)) =
 false →
 (IntKind.wrap IntKind.i64 (a + (1 : Int)) =
 IntKind.wrap IntKind.i64 (a + (1 : Int)) ∧
 decodeL (encode x.fst) = decodeL (encode x.fst) ∧
 x.fst = x.fst ∧
 (↑(List.length x.fst) : Int) =
 (↑(List.length x.fst) : Int)) ∧
 Z (IntKind.wrap IntKind.i64 (a + (1 : Int)), ()) ∧
 μ (IntKind.wrap IntKind.i64 (a + (1 : Int)), ()) <
 μ (a, ()))) ∧
 ((!decide
 (List.getD x.fst (Int.toNat a) (Ty.dflt t21) >
 (57343 : Int))) =
 false →
 (IntKind.wrap IntKind.i64 (a + (1 : Int)) =
 IntKind.wrap IntKind.i64 (a + (1 : Int)) ∧
 decodeL (encode x.fst) = decodeL (encode x.fst) ∧
 x.fst = x.fst ∧
 (↑(List.length x.fst) : Int) =
 (↑(List.length x.fst) : Int)) ∧
 Z (IntKind.wrap IntKind.i64 (a + (1 : Int)), ()) ∧
 μ (IntKind.wrap IntKind.i64 (a + (1 : Int)), ()) <
 μ (a, ()))))) ∧
 (decide (List.getD x.fst (Int.toNat a) (Ty.dflt t21) ≤ (1114111 : Int)) =
 false →
 ((!false) = true →
 ((0 : Int) ≤ a ∧ a < (↑(List.length (decodeL (encode x.fst))) : Int)) ∧
 ((List.getD (decodeL (encode x.fst)) (Int.toNat a) (Ty.dflt t21) !=
 (65533 : Int)) =
 true →
 false = true) ∧
 ((List.getD (decodeL (encode x.fst)) (Int.toNat a) (Ty.dflt t21) !=
 (65533 : Int)) =
 false →
 (IntKind.wrap IntKind.i64 (a + (1 : Int)) =
 IntKind.wrap IntKind.i64 (a + (1 : Int)) ∧
 decodeL (encode x.fst) = decodeL (encode x.fst) ∧
 x.fst = x.fst ∧
 (↑(List.length x.fst) : Int) =
 (↑(List.length x.fst) : Int)) ∧
 Z (IntKind.wrap IntKind.i64 (a + (1 : Int)), ()) ∧
 μ (IntKind.wrap IntKind.i64 (a + (1 : Int)), ()) < μ (a, ()))) ∧
 ((!false) = false →
 (IntKind.wrap IntKind.i64 (a + (1 : Int)) =
 IntKind.wrap IntKind.i64 (a + (1 : Int)) ∧
 decodeL (encode x.fst) = decodeL (encode x.fst) ∧
 x.fst = x.fst ∧
 (↑(List.length x.fst) : Int) = (↑(List.length x.fst) : Int)) ∧
 Z (IntKind.wrap IntKind.i64 (a + (1 : Int)), ()) ∧
 μ (IntKind.wrap IntKind.i64 (a + (1 : Int)), ()) < μ (a, ())))) ∧
 (decide (List.getD x.fst (Int.toNat a) (Ty.dflt t21) ≥ (0 : Int)) = false →
 ((!false) = true →
 ((0 : Int) ≤ a ∧ a < (↑(List.length (decodeL (encode x.fst))) : Int)) ∧
 ((List.getD (decodeL (encode x.fst)) (Int.toNat a) (Ty.dflt t21) !=
 (65533 : Int)) =
 true →
 false = true) ∧
 ((List.getD (decodeL (encode x.fst)) (Int.toNat a) (Ty.dflt t21) !=
 (65533 : Int)) =
 false →
 (IntKind.wrap IntKind.i64 (a + (1 : Int)) =
 IntKind.wrap IntKind.i64 (a + (1 : Int)) ∧
 decodeL (encode x.fst) = decodeL (encode x.fst) ∧
 x.fst = x.fst ∧
 (↑(List.length x.fst) : Int) = (↑(List.length x.fst) : Int)) ∧
 Z (IntKind.wrap IntKind.i64 (a + (1 : Int)), ()) ∧
 μ (IntKind.wrap IntKind.i64 (a + (1 : Int)), ()) < μ (a, ()))) ∧
 ((!false) = false →
 (IntKind.wrap IntKind.i64 (a + (1 : Int)) =
 IntKind.wrap IntKind.i64 (a + (1 : Int)) ∧
 decodeL (encode x.fst) = decodeL (encode x.fst) ∧
 x.fst = x.fst ∧
 (↑(List.length x.fst) : Int) = (↑(List.length x.fst) : Int)) ∧
 Z (IntKind.wrap IntKind.i64 (a + (1 : Int)), ()) ∧
 μ (IntKind.wrap IntKind.i64 (a + (1 : Int)), ()) < μ (a, ())))) ∧
 (decide (a < (↑(List.length x.fst) : Int)) = false → True ∧ true = true)))
theorem vcEq4 : fnVC E4 Tryd.f4 (bodyOf Tryd.f4) cUtfBack = vc4 := by kernel_rfl
/- fn 5 -/
def hs5 : List (Nat × Nat × Hint) := []
def nm5 : List Nat := []
noncomputable def E5 : Env := env tab [(9, cAcute), (15, cClean), (16, cGood), (14, cDecode), (17, cRunes)] [] gl hs5 nm5
def vc5 : Prop :=
 ∀ (x : ByteArray × Unit),
 ByteArray.size x.fst ≤ maxLen →
 (decide ((↑(ByteArray.size x.fst) : Int) > (4000 : Int)) = true → True ∧ true = true) ∧
 (decide ((↑(ByteArray.size x.fst) : Int) > (4000 : Int)) = false →
 ByteArray.size x.fst ≤ (100000000 : Nat) ∧
 ByteArray.size (clean x.fst) ≤ (100000000 : Nat) ∧
 (good (clean x.fst) = true →
 ByteArray.size (clean x.fst) ≤ (100000000 : Nat) ∧
 ((ByteArray.toList (clean (clean x.fst)) == ByteArray.toList (clean x.fst)) = true →
 ByteArray.size x.fst ≤ (100000000 : Nat) ∧
 (Ty.beq t4 (good x.fst) (ByteArray.toList (clean x.fst) == ByteArray.toList x.fst) = true →
 ByteArray.size (clean x.fst) ≤ (1000000000 : Nat) ∧
 ByteArray.size x.fst ≤ (1000000000 : Nat) ∧
 (List.length (decodeL (clean x.fst)) ≤ maxLen ∧ List.length (decodeL x.fst) ≤ maxLen) ∧
 (decide (decodeL (clean x.fst) = decodeL x.fst) = true → True ∧ true = true) ∧
 (decide (decodeL (clean x.fst) = decodeL x.fst) = false → false = true)) ∧
 (Ty.beq t4 (good x.fst) (ByteArray.toList (clean x.fst) == ByteArray.toList x.fst) = false →
 false = true)) ∧
 ((ByteArray.toList (clean (clean x.fst)) == ByteArray.toList (clean x.fst)) = false →
 false = true)) ∧
 (good (clean x.fst) = false → false = true))
theorem vcEq5 : fnVC E5 Tryd.f5 (bodyOf Tryd.f5) cUtfClean = vc5 := by kernel_rfl
/- fn 6 -/
def hs6 : List (Nat × Nat × Hint) := []
def nm6 : List Nat := []
noncomputable def E6 : Env := env tab [(16, cGood), (9, cAcute), (14, cDecode), (17, cRunes)] [] gl hs6 nm6
def vc6 : Prop :=
 ∀ (x : ByteArray × ByteArray × Unit),
 ByteArray.size x.fst ≤ maxLen ∧ ByteArray.size x.snd.fst ≤ maxLen →
 (decide ((↑(ByteArray.size x.fst) : Int) > (2000 : Int)) = true → True ∧ true = true) ∧
 (decide ((↑(ByteArray.size x.fst) : Int) > (2000 : Int)) = false →
 (decide ((↑(ByteArray.size x.snd.fst) : Int) > (2000 : Int)) = true → True ∧ true = true) ∧
 (decide ((↑(ByteArray.size x.snd.fst) : Int) > (2000 : Int)) = false →
 ByteArray.size x.fst ≤ (100000000 : Nat) ∧
 ((!good x.fst) = true → True ∧ true = true) ∧
 ((!good x.fst) = false →
 ByteArray.size x.fst ≤ (1000000000 : Nat) ∧
 (List.length ([] : List Int) + List.length (decodeL x.fst)) * (4 : Nat) ≤ (140737488355328 : Nat) ∧
 List.length ([] : List Int) + List.length (decodeL x.fst) ≤ maxLen ∧
 ByteArray.size x.snd.fst ≤ (1000000000 : Nat) ∧
 (List.length ([] ++ decodeL x.fst) + List.length (decodeL x.snd.fst)) * (4 : Nat) ≤
 (140737488355328 : Nat) ∧
 List.length ([] ++ decodeL x.fst) + List.length (decodeL x.snd.fst) ≤ maxLen ∧
 ByteArray.size x.fst + ByteArray.size x.snd.fst ≤ (9223372036854775807 : Nat) ∧
 ByteArray.size (x.fst ++ x.snd.fst) ≤ (1000000000 : Nat) ∧
 (List.length (decodeL (x.fst ++ x.snd.fst)) ≤ maxLen ∧
 List.length ([] ++ decodeL x.fst ++ decodeL x.snd.fst) ≤ maxLen) ∧
 (decide (decodeL (x.fst ++ x.snd.fst) = [] ++ decodeL x.fst ++ decodeL x.snd.fst) =
 true →
 True ∧ true = true) ∧
 (decide
 (decodeL (x.fst ++ x.snd.fst) = [] ++ decodeL x.fst ++ decodeL x.snd.fst) =
 false →
 false = true))))
theorem vcEq6 : fnVC E6 Tryd.f6 (bodyOf Tryd.f6) cUtfJoins = vc6 := by kernel_rfl
/- fn 7 -/
def hs7 : List (Nat × Nat × Hint) := []
def nm7 : List Nat := []
noncomputable def E7 : Env := env tab [(9, cAcute), (18, cRDecode), (14, cDecode), (17, cRunes), (19, cCount), (16, cGood), (20, cRGood)] [] gl hs7 nm7
def vc7 : Prop :=
 ∀ (x : ByteArray × Unit),
 ByteArray.size x.fst ≤ maxLen →
 (decide ((↑(ByteArray.size x.fst) : Int) > (4000 : Int)) = true → True ∧ true = true) ∧
 (decide ((↑(ByteArray.size x.fst) : Int) > (4000 : Int)) = false →
 ByteArray.size x.fst ≤ (1000000000 : Nat) ∧
 ByteArray.size x.fst ≤ (1000000000 : Nat) ∧
 (List.length (decodeL x.fst) ≤ maxLen ∧ List.length (decodeL x.fst) ≤ maxLen) ∧
 (decide (decodeL x.fst = decodeL x.fst) = true →
 ByteArray.size x.fst ≤ maxLen ∧
 (((↑(List.length (decodeL x.fst)) : Int) == (↑(List.length (decodeL x.fst)) : Int)) = true →
 ByteArray.size x.fst ≤ (100000000 : Nat) ∧
 ByteArray.size x.fst ≤ (100000000 : Nat) ∧
 (Ty.beq t4 (good x.fst) (good x.fst) = true → True ∧ true = true) ∧
 (Ty.beq t4 (good x.fst) (good x.fst) = false → false = true)) ∧
 (((↑(List.length (decodeL x.fst)) : Int) == (↑(List.length (decodeL x.fst)) : Int)) = false →
 false = true)) ∧
 (decide (decodeL x.fst = decodeL x.fst) = false → false = true))
theorem vcEq7 : fnVC E7 Tryd.f7 (bodyOf Tryd.f7) cUtfDecodes = vc7 := by kernel_rfl
/- fn 8 -/
def hs8 : List (Nat × Nat × Hint) := []
def nm8 : List Nat := []
noncomputable def E8 : Env := env tab [(9, cAcute), (21, cStep), (22, cRStep)] [] gl hs8 nm8
def vc8 : Prop :=
 ∀ (x : ByteArray × Int × Unit),
 ByteArray.size x.fst ≤ maxLen →
 (decide ((↑(ByteArray.size x.fst) : Int) > (4000 : Int)) = true → True ∧ true = true) ∧
 (decide ((↑(ByteArray.size x.fst) : Int) > (4000 : Int)) = false →
 ByteArray.size x.fst ≤ maxLen ∧
 ByteArray.size x.fst ≤ maxLen ∧
 (((uStep x.fst x.snd.fst).fst == (uStep x.fst x.snd.fst).fst) = true →
 (((uStep x.fst x.snd.fst).snd.fst == (uStep x.fst x.snd.fst).snd.fst) = true → True ∧ true = true) ∧
 (((uStep x.fst x.snd.fst).snd.fst == (uStep x.fst x.snd.fst).snd.fst) = false → false = true)) ∧
 (((uStep x.fst x.snd.fst).fst == (uStep x.fst x.snd.fst).fst) = false → false = true))
theorem vcEq8 : fnVC E8 Tryd.f8 (bodyOf Tryd.f8) cUtfSteps = vc8 := by kernel_rfl
/- fn 9 -/
def hs9 : List (Nat × Nat × Hint) := []
def nm9 : List Nat := []
noncomputable def E9 : Env := env tab [(14, cDecode), (17, cRunes), (10, cSize), (16, cGood)] [] gl hs9 nm9
def vc9 : Prop :=
 ∀ (x : Unit),
 True →
 ByteArray.size { data := #[(97 : UInt8), (255 : UInt8), (195 : UInt8), (169 : UInt8)] } ≤ (1000000000 : Nat) ∧
 (List.length (decodeL { data := #[(97 : UInt8), (255 : UInt8), (195 : UInt8), (169 : UInt8)] }) ≤ maxLen ∧
 List.length [(97 : Int), (65533 : Int), (233 : Int)] ≤ maxLen) ∧
 (decide
 (decodeL { data := #[(97 : UInt8), (255 : UInt8), (195 : UInt8), (169 : UInt8)] } =
 [(97 : Int), (65533 : Int), (233 : Int)]) =
 true →
 True ∧
 ((sizeR (233 : Int) == (2 : Int)) = true →
 ByteArray.size { data := #[(255 : UInt8)] } ≤ (100000000 : Nat) ∧
 (!good { data := #[(255 : UInt8)] }) = true) ∧
 ((sizeR (233 : Int) == (2 : Int)) = false → false = true)) ∧
 (decide
 (decodeL { data := #[(97 : UInt8), (255 : UInt8), (195 : UInt8), (169 : UInt8)] } =
 [(97 : Int), (65533 : Int), (233 : Int)]) =
 false →
 false = true)
theorem vcEq9 : fnVC E9 Tryd.f9 (bodyOf Tryd.f9) cAcute = vc9 := by kernel_rfl
/- fn 10 -/
def hs10 : List (Nat × Nat × Hint) := [(0, 4, ⟨[], [], [], [4000000000, 5]⟩),
  (110020, 4, ⟨[], [], [], [4000000000, 5]⟩),
  (220040, 4, ⟨[], [], [], [4000000000, 5]⟩),
  (330060, 4, ⟨[], [], [], [4000000000, 5]⟩),
  (440080, 4, ⟨[], [], [], [4000000000, 5]⟩),
  (550100, 4, ⟨[], [], [], [4000000000, 5]⟩),
  (660120, 4, ⟨[], [], [], [4000000000, 5]⟩),
  (770140, 4, ⟨[], [], [], [4000000000, 5]⟩),
  (880160, 4, ⟨[], [], [], [4000000000, 5]⟩)]
def nm10 : List Nat := []
noncomputable def E10 : Env := env tab [(23, cRight)] [(10, Tryd.f10)] gl hs10 nm10
def vc10 : Prop :=
 ∀ (x : Int × Unit),
 True →
 True ∧
 ((!right x.fst) = true →
 True ∧
 ((!right (65533 : Int)) = true →
 True ∧
 ((!right (65533 : Int)) = true →
 True ∧
 ((!right (65533 : Int)) = true →
 True ∧
 ((!right (65533 : Int)) = true →
 True ∧
 ((!right (65533 : Int)) = true →
 True ∧
 ((!right (65533 : Int)) = true →
 True ∧
 ((!right (65533 : Int)) = true →
 True ∧
 ((!right (65533 : Int)) = true → False) ∧
 ((!right (65533 : Int)) = false →
 (decide ((0 : Int) < (4 : Int)) = true →
 ((0 : Int) ≤ (0 : Int) ∧ (0 : Int) < (↑(4 : Nat) : Int)) ∧
 (decide ((65533 : Int) ≤ (127 : Int)) = true →
 IntKind.wrap IntKind.i64 ((0 : Int) + (1 : Int)) =
 sizeR x.fst) ∧
 (decide ((65533 : Int) ≤ (127 : Int)) = false →
 (decide
 (IntKind.wrap IntKind.i64
 ((0 : Int) + (1 : Int)) <
 (4 : Int)) =
 true →
 ((0 : Int) ≤
 IntKind.wrap IntKind.i64
 ((0 : Int) + (1 : Int)) ∧
 IntKind.wrap IntKind.i64
 ((0 : Int) + (1 : Int)) <
 (↑(4 : Nat) : Int)) ∧
 (decide ((65533 : Int) ≤ (2047 : Int)) =
 true →
 IntKind.wrap IntKind.i64
 (IntKind.wrap IntKind.i64
 ((0 : Int) + (1 : Int)) +
 (1 : Int)) =
 sizeR x.fst) ∧
 (decide ((65533 : Int) ≤ (2047 : Int)) =
 false →
 (decide
 (IntKind.wrap IntKind.i64
 (IntKind.wrap IntKind.i64
 ((0 : Int) + (1 : Int)) +
 (1 : Int)) <
 (4 : Int)) =
 true →
 ((0 : Int) ≤
 IntKind.wrap IntKind.i64
 (IntKind.wrap IntKind.i64
 ((0 : Int) + (1 : Int)) +
 (1 : Int)) ∧
 IntKind.wrap IntKind.i64
 (IntKind.wrap IntKind.i64
 ((0 : Int) + (1 : Int)) +
 (1 : Int)) <
 (↑(4 : Nat) : Int)) ∧
 (decide
 ((65533 : Int) ≤
 (65535 : Int)) =
 true →
 IntKind.wrap IntKind.i64
 (IntKind.wrap IntKind.i64
 (IntKind.wrap
 IntKind.i64
 ((0 : Int) +
 (1 : Int)) +
 (1 : Int)) +
 (1 : Int)) =
 sizeR x.fst) ∧
 (decide
 ((65533 : Int) ≤
 (65535 : Int)) =
 false →
 (decide
 (IntKind.wrap
 IntKind.i64
 (IntKind.wrap
 IntKind.i64
 (IntKind.wrap
 IntKind.i64
 ((0 : Int) +
 (1 :
 Int)) +
 (1 : Int)) +
 (1 : Int)) <
 (4 : Int)) =
 true →
 ((0 : Int) ≤
 IntKind.wrap
 IntKind.i64
 (IntKind.wrap
 IntKind.i64
 (IntKind.wrap
 IntKind.i64
 ((0 : Int) +
 (1 :
 Int)) +
 (1 : Int)) +
 (1 : Int)) ∧
 IntKind.wrap IntKind.i64
 (IntKind.wrap
 IntKind.i64
 (IntKind.wrap
 IntKind.i64
 ((0 : Int) +
 (1 :
 Int)) +
 (1 : Int)) +
 (1 : Int)) <
 (↑(4 : Nat) : Int)) ∧
 (decide
 ((65533 : Int) ≤
 (1114111 :
 Int)) =
 true →
 IntKind.wrap
 IntKind.i64
 (IntKind.wrap
 IntKind.i64
 (IntKind.wrap
 IntKind.i64
 (IntKind.wrap
 IntKind.i64
 ((0 :
 Int) +
 (1 :
 Int)) +
 (1 :
 Int)) +
 (1 : Int)) +
 (1 : Int)) =
 sizeR x.fst) ∧
 (decide
 ((65533 : Int) ≤
 (1114111 :
 Int)) =
 false →
 (decide
 (IntKind.wrap
 IntKind.i64
 (IntKind.wrap
 IntKind.i64
 (IntKind.wrap
 IntKind.i64
 (IntKind.wrap
 IntKind.i64
 ((0 :
 Int) +
 (1 :
 Int)) +
 (1 :
 Int)) +
 (1 :
 Int)) +
 (1 :
 Int)) <
 (4 : Int)) =
 true →
 False) ∧
 (decide
 (IntKind.wrap
 IntKind.i64
 (IntKind.wrap
 IntKind.i64
 (IntKind.wrap
 IntKind.i64
 (IntKind.wrap
 IntKind.i64
 ((0 :
 Int) +
 (1 :
 Int)) +
 (1 :
 Int)) +
 (1 :
 Int)) +
 (1 :
 Int)) <
 (4 : Int)) =
 false →
 (0 : Int) =
 sizeR x.fst))) ∧
 (decide
 (IntKind.wrap
 IntKind.i64
 (IntKind.wrap
 IntKind.i64
 (IntKind.wrap
 IntKind.i64
 ((0 : Int) +
 (1 :
 Int)) +
 (1 : Int)) +
 (1 : Int)) <
 (4 : Int)) =
 false →
 (0 : Int) = sizeR x.fst))) ∧
 (decide
 (IntKind.wrap IntKind.i64
 (IntKind.wrap IntKind.i64
 ((0 : Int) + (1 : Int)) +
 (1 : Int)) <
 (4 : Int)) =
 false →
 (0 : Int) = sizeR x.fst))) ∧
 (decide
 (IntKind.wrap IntKind.i64
 ((0 : Int) + (1 : Int)) <
 (4 : Int)) =
 false →
 (0 : Int) = sizeR x.fst))) ∧
 (decide ((0 : Int) < (4 : Int)) = false →
 (0 : Int) = sizeR x.fst))) ∧
 ((!right (65533 : Int)) = false →
 (decide ((0 : Int) < (4 : Int)) = true →
 ((0 : Int) ≤ (0 : Int) ∧ (0 : Int) < (↑(4 : Nat) : Int)) ∧
 (decide ((65533 : Int) ≤ (127 : Int)) = true →
 IntKind.wrap IntKind.i64 ((0 : Int) + (1 : Int)) =
 sizeR x.fst) ∧
 (decide ((65533 : Int) ≤ (127 : Int)) = false →
 (decide
 (IntKind.wrap IntKind.i64
 ((0 : Int) + (1 : Int)) <
 (4 : Int)) =
 true →
 ((0 : Int) ≤
 IntKind.wrap IntKind.i64
 ((0 : Int) + (1 : Int)) ∧
 IntKind.wrap IntKind.i64 ((0 : Int) + (1 : Int)) <
 (↑(4 : Nat) : Int)) ∧
 (decide ((65533 : Int) ≤ (2047 : Int)) = true →
 IntKind.wrap IntKind.i64
 (IntKind.wrap IntKind.i64
 ((0 : Int) + (1 : Int)) +
 (1 : Int)) =
 sizeR x.fst) ∧
 (decide ((65533 : Int) ≤ (2047 : Int)) = false →
 (decide
 (IntKind.wrap IntKind.i64
 (IntKind.wrap IntKind.i64
 ((0 : Int) + (1 : Int)) +
 (1 : Int)) <
 (4 : Int)) =
 true →
 ((0 : Int) ≤
 IntKind.wrap IntKind.i64
 (IntKind.wrap IntKind.i64
 ((0 : Int) + (1 : Int)) +
 (1 : Int)) ∧
 IntKind.wrap IntKind.i64
 (IntKind.wrap IntKind.i64
 ((0 : Int) + (1 : Int)) +
 (1 : Int)) <
 (↑(4 : Nat) : Int)) ∧
 (decide ((65533 : Int) ≤ (65535 : Int)) =
 true →
 IntKind.wrap IntKind.i64
 (IntKind.wrap IntKind.i64
 (IntKind.wrap IntKind.i64
 ((0 : Int) + (1 : Int)) +
 (1 : Int)) +
 (1 : Int)) =
 sizeR x.fst) ∧
 (decide
 ((65533 : Int) ≤ (65535 : Int)) =
 false →
 (decide
 (IntKind.wrap IntKind.i64
 (IntKind.wrap IntKind.i64
 (IntKind.wrap
 IntKind.i64
 ((0 : Int) +
 (1 : Int)) +
 (1 : Int)) +
 (1 : Int)) <
 (4 : Int)) =
 true →
 ((0 : Int) ≤
 IntKind.wrap IntKind.i64
 (IntKind.wrap IntKind.i64
 (IntKind.wrap
 IntKind.i64
 ((0 : Int) +
 (1 : Int)) +
 (1 : Int)) +
 (1 : Int)) ∧
 IntKind.wrap IntKind.i64
 (IntKind.wrap IntKind.i64
 (IntKind.wrap
 IntKind.i64
 ((0 : Int) +
 (1 : Int)) +
 (1 : Int)) +
 (1 : Int)) <
 (↑(4 : Nat) : Int)) ∧
 (decide
 ((65533 : Int) ≤
 (1114111 : Int)) =
 true →
 IntKind.wrap IntKind.i64
 (IntKind.wrap
 IntKind.i64
 (IntKind.wrap
 IntKind.i64
 (IntKind.wrap
 IntKind.i64
 ((0 : Int) +
 (1 :
 Int)) +
 (1 : Int)) +
 (1 : Int)) +
 (1 : Int)) =
 sizeR x.fst) ∧
 (decide
 ((65533 : Int) ≤
 (1114111 : Int)) =
 false →
 (decide
 (IntKind.wrap
 IntKind.i64
 (IntKind.wrap
 IntKind.i64
 (IntKind.wrap
 IntKind.i64
 (IntKind.wrap
 IntKind.i64
 ((0 :
 Int) +
 (1 :
 Int)) +
 (1 :
 Int)) +
 (1 :
 Int)) +
 (1 : Int)) <
 (4 : Int)) =
 true →
 False) ∧
 (decide
 (IntKind.wrap
 IntKind.i64
 (IntKind.wrap
 IntKind.i64
 (IntKind.wrap
 IntKind.i64
 (IntKind.wrap
 IntKind.i64
 ((0 :
 Int) +
 (1 :
 Int)) +
 (1 :
 Int)) +
 (1 :
 Int)) +
 (1 : Int)) <
 (4 : Int)) =
 false →
 (0 : Int) =
 sizeR x.fst))) ∧
 (decide
 (IntKind.wrap IntKind.i64
 (IntKind.wrap IntKind.i64
 (IntKind.wrap
 IntKind.i64
 ((0 : Int) +
 (1 : Int)) +
 (1 : Int)) +
 (1 : Int)) <
 (4 : Int)) =
 false →
 (0 : Int) = sizeR x.fst))) ∧
 (decide
 (IntKind.wrap IntKind.i64
 (IntKind.wrap IntKind.i64
 ((0 : Int) + (1 : Int)) +
 (1 : Int)) <
 (4 : Int)) =
 false →
 (0 : Int) = sizeR x.fst))) ∧
 (decide
 (IntKind.wrap IntKind.i64
 ((0 : Int) + (1 : Int)) <
 (4 : Int)) =
 false →
 (0 : Int) = sizeR x.fst))) ∧
 (decide ((0 : Int) < (4 : Int)) = false →
 (0 : Int) = sizeR x.fst))) ∧
 ((!right (65533 : Int)) = false →
 (decide ((0 : Int) < (4 : Int)) = true →
 ((0 : Int) ≤ (0 : Int) ∧ (0 : Int) < (↑(4 : Nat) : Int)) ∧
 (decide ((65533 : Int) ≤ (127 : Int)) = true →
 IntKind.wrap IntKind.i64 ((0 : Int) + (1 : Int)) =
 sizeR x.fst) ∧
 (decide ((65533 : Int) ≤ (127 : Int)) = false →
 (decide
 (IntKind.wrap IntKind.i64 ((0 : Int) + (1 : Int)) <
 (4 : Int)) =
 true →
 ((0 : Int) ≤
 IntKind.wrap IntKind.i64 ((0 : Int) + (1 : Int)) ∧
 IntKind.wrap IntKind.i64 ((0 : Int) + (1 : Int)) <
 (↑(4 : Nat) : Int)) ∧
 (decide ((65533 : Int) ≤ (2047 : Int)) = true →
 IntKind.wrap IntKind.i64
 (IntKind.wrap IntKind.i64
 ((0 : Int) + (1 : Int)) +
 (1 : Int)) =
 sizeR x.fst) ∧
 (decide ((65533 : Int) ≤ (2047 : Int)) = false →
 (decide
 (IntKind.wrap IntKind.i64
 (IntKind.wrap IntKind.i64
 ((0 : Int) + (1 : Int)) +
 (1 : Int)) <
 (4 : Int)) =
 true →
 ((0 : Int) ≤
 IntKind.wrap IntKind.i64
 (IntKind.wrap IntKind.i64
 ((0 : Int) + (1 : Int)) +
 (1 : Int)) ∧
 IntKind.wrap IntKind.i64
 (IntKind.wrap IntKind.i64
 ((0 : Int) + (1 : Int)) +
 (1 : Int)) <
 (↑(4 : Nat) : Int)) ∧
 (decide ((65533 : Int) ≤ (65535 : Int)) = true →
 IntKind.wrap IntKind.i64
 (IntKind.wrap IntKind.i64
 (IntKind.wrap IntKind.i64
 ((0 : Int) + (1 : Int)) +
 (1 : Int)) +
 (1 : Int)) =
 sizeR x.fst) ∧
 (decide ((65533 : Int) ≤ (65535 : Int)) =
 false →
 (decide
 (IntKind.wrap IntKind.i64
 (IntKind.wrap IntKind.i64
 (IntKind.wrap IntKind.i64
 ((0 : Int) +
 (1 : Int)) +
 (1 : Int)) +
 (1 : Int)) <
 (4 : Int)) =
 true →
 ((0 : Int) ≤
 IntKind.wrap IntKind.i64
 (IntKind.wrap IntKind.i64
 (IntKind.wrap IntKind.i64
 ((0 : Int) +
 (1 : Int)) +
 (1 : Int)) +
 (1 : Int)) ∧
 IntKind.wrap IntKind.i64
 (IntKind.wrap IntKind.i64
 (IntKind.wrap IntKind.i64
 ((0 : Int) +
 (1 : Int)) +
 (1 : Int)) +
 (1 : Int)) <
 (↑(4 : Nat) : Int)) ∧
 (decide
 ((65533 : Int) ≤
 (1114111 : Int)) =
 true →
 IntKind.wrap IntKind.i64
 (IntKind.wrap IntKind.i64
 (IntKind.wrap IntKind.i64
 (IntKind.wrap
 IntKind.i64
 ((0 : Int) +
 (1 : Int)) +
 (1 : Int)) +
 (1 : Int)) +
 (1 : Int)) =
 sizeR x.fst) ∧
 (decide
 ((65533 : Int) ≤
 (1114111 : Int)) =
 false →
 (decide
 (IntKind.wrap IntKind.i64
 (IntKind.wrap
 IntKind.i64
 (IntKind.wrap
 IntKind.i64
 (IntKind.wrap
 IntKind.i64
 ((0 :
 Int) +
 (1 :
 Int)) +
 (1 : Int)) +
 (1 : Int)) +
 (1 : Int)) <
 (4 : Int)) =
 true →
 False) ∧
 (decide
 (IntKind.wrap IntKind.i64
 (IntKind.wrap
 IntKind.i64
 (IntKind.wrap
 IntKind.i64
 (IntKind.wrap
 IntKind.i64
 ((0 :
 Int) +
 (1 :
 Int)) +
 (1 : Int)) +
 (1 : Int)) +
 (1 : Int)) <
 (4 : Int)) =
 false →
 (0 : Int) = sizeR x.fst))) ∧
 (decide
 (IntKind.wrap IntKind.i64
 (IntKind.wrap IntKind.i64
 (IntKind.wrap IntKind.i64
 ((0 : Int) +
 (1 : Int)) +
 (1 : Int)) +
 (1 : Int)) <
 (4 : Int)) =
 false →
 (0 : Int) = sizeR x.fst))) ∧
 (decide
 (IntKind.wrap IntKind.i64
 (IntKind.wrap IntKind.i64
 ((0 : Int) + (1 : Int)) +
 (1 : Int)) <
 (4 : Int)) =
 false →
 (0 : Int) = sizeR x.fst))) ∧
 (decide
 (IntKind.wrap IntKind.i64 ((0 : Int) + (1 : Int)) <
 (4 : Int)) =
 false →
 (0 : Int) = sizeR x.fst))) ∧
 (decide ((0 : Int) < (4 : Int)) = false → (0 : Int) = sizeR x.fst))) ∧
 ((!right (65533 : Int)) = false →
 (decide ((0 : Int) < (4 : Int)) = true →
 ((0 : Int) ≤ (0 : Int) ∧ (0 : Int) < (↑(4 : Nat) : Int)) ∧
 (decide ((65533 : Int) ≤ (127 : Int)) = true →
 IntKind.wrap IntKind.i64 ((0 : Int) + (1 : Int)) = sizeR x.fst) ∧
 (decide ((65533 : Int) ≤ (127 : Int)) = false →
 (decide
 (IntKind.wrap IntKind.i64 ((0 : Int) + (1 : Int)) <
 (4 : Int)) =
 true →
 ((0 : Int) ≤ IntKind.wrap IntKind.i64 ((0 : Int) + (1 : Int)) ∧
 IntKind.wrap IntKind.i64 ((0 : Int) + (1 : Int)) <
 (↑(4 : Nat) : Int)) ∧
 (decide ((65533 : Int) ≤ (2047 : Int)) = true →
 IntKind.wrap IntKind.i64
 (IntKind.wrap IntKind.i64 ((0 : Int) + (1 : Int)) +
 (1 : Int)) =
 sizeR x.fst) ∧
 (decide ((65533 : Int) ≤ (2047 : Int)) = false →
 (decide
 (IntKind.wrap IntKind.i64
 (IntKind.wrap IntKind.i64
 ((0 : Int) + (1 : Int)) +
 (1 : Int)) <
 (4 : Int)) =
 true →
 ((0 : Int) ≤
 IntKind.wrap IntKind.i64
 (IntKind.wrap IntKind.i64
 ((0 : Int) + (1 : Int)) +
 (1 : Int)) ∧
 IntKind.wrap IntKind.i64
 (IntKind.wrap IntKind.i64
 ((0 : Int) + (1 : Int)) +
 (1 : Int)) <
 (↑(4 : Nat) : Int)) ∧
 (decide ((65533 : Int) ≤ (65535 : Int)) = true →
 IntKind.wrap IntKind.i64
 (IntKind.wrap IntKind.i64
 (IntKind.wrap IntKind.i64
 ((0 : Int) + (1 : Int)) +
 (1 : Int)) +
 (1 : Int)) =
 sizeR x.fst) ∧
 (decide ((65533 : Int) ≤ (65535 : Int)) = false →
 (decide
 (IntKind.wrap IntKind.i64
 (IntKind.wrap IntKind.i64
 (IntKind.wrap IntKind.i64
 ((0 : Int) + (1 : Int)) +
 (1 : Int)) +
 (1 : Int)) <
 (4 : Int)) =
 true →
 ((0 : Int) ≤
 IntKind.wrap IntKind.i64
 (IntKind.wrap IntKind.i64
 (IntKind.wrap IntKind.i64
 ((0 : Int) + (1 : Int)) +
 (1 : Int)) +
 (1 : Int)) ∧
 IntKind.wrap IntKind.i64
 (IntKind.wrap IntKind.i64
 (IntKind.wrap IntKind.i64
 ((0 : Int) + (1 : Int)) +
 (1 : Int)) +
 (1 : Int)) <
 (↑(4 : Nat) : Int)) ∧
 (decide ((65533 : Int) ≤ (1114111 : Int)) =
 true →
 IntKind.wrap IntKind.i64
 (IntKind.wrap IntKind.i64
 (IntKind.wrap IntKind.i64
 (IntKind.wrap IntKind.i64
 ((0 : Int) +
 (1 : Int)) +
 (1 : Int)) +
 (1 : Int)) +
 (1 : Int)) =
 sizeR x.fst) ∧
 (decide
 ((65533 : Int) ≤ (1114111 : Int)) =
 false →
 (decide
 (IntKind.wrap IntKind.i64
 (IntKind.wrap IntKind.i64
 (IntKind.wrap
 IntKind.i64
 (IntKind.wrap
 IntKind.i64
 ((0 : Int) +
 (1 : Int)) +
 (1 : Int)) +
 (1 : Int)) +
 (1 : Int)) <
 (4 : Int)) =
 true →
 False) ∧
 (decide
 (IntKind.wrap IntKind.i64
 (IntKind.wrap IntKind.i64
 (IntKind.wrap
 IntKind.i64
 (IntKind.wrap
 IntKind.i64
 ((0 : Int) +
 (1 : Int)) +
 (1 : Int)) +
 (1 : Int)) +
 (1 : Int)) <
 (4 : Int)) =
 false →
 (0 : Int) = sizeR x.fst))) ∧
 (decide
 (IntKind.wrap IntKind.i64
 (IntKind.wrap IntKind.i64
 (IntKind.wrap IntKind.i64
 ((0 : Int) + (1 : Int)) +
 (1 : Int)) +
 (1 : Int)) <
 (4 : Int)) =
 false →
 (0 : Int) = sizeR x.fst))) ∧
 (decide
 (IntKind.wrap IntKind.i64
 (IntKind.wrap IntKind.i64
 ((0 : Int) + (1 : Int)) +
 (1 : Int)) <
 (4 : Int)) =
 false →
 (0 : Int) = sizeR x.fst))) ∧
 (decide
 (IntKind.wrap IntKind.i64 ((0 : Int) + (1 : Int)) <
 (4 : Int)) =
 false →
 (0 : Int) = sizeR x.fst))) ∧
 (decide ((0 : Int) < (4 : Int)) = false → (0 : Int) = sizeR x.fst))) ∧
 ((!right (65533 : Int)) = false →
 (decide ((0 : Int) < (4 : Int)) = true →
 ((0 : Int) ≤ (0 : Int) ∧ (0 : Int) < (↑(4 : Nat) : Int)) ∧
 (decide ((65533 : Int) ≤ (127 : Int)) = true →
 IntKind.wrap IntKind.i64 ((0 : Int) + (1 : Int)) = sizeR x.fst) ∧
 (decide ((65533 : Int) ≤ (127 : Int)) = false →
 (decide (IntKind.wrap IntKind.i64 ((0 : Int) + (1 : Int)) < (4 : Int)) =
 true →
 ((0 : Int) ≤ IntKind.wrap IntKind.i64 ((0 : Int) + (1 : Int)) ∧
 IntKind.wrap IntKind.i64 ((0 : Int) + (1 : Int)) <
 (↑(4 : Nat) : Int)) ∧
 (decide ((65533 : Int) ≤ (2047 : Int)) = true →
 IntKind.wrap IntKind.i64
 (IntKind.wrap IntKind.i64 ((0 : Int) + (1 : Int)) +
 (1 : Int)) =
 sizeR x.fst) ∧
 (decide ((65533 : Int) ≤ (2047 : Int)) = false →
 (decide
 (IntKind.wrap IntKind.i64
 (IntKind.wrap IntKind.i64 ((0 : Int) + (1 : Int)) +
 (1 : Int)) <
 (4 : Int)) =
 true →
 ((0 : Int) ≤
 IntKind.wrap IntKind.i64
 (IntKind.wrap IntKind.i64 ((0 : Int) + (1 : Int)) +
 (1 : Int)) ∧
 IntKind.wrap IntKind.i64
 (IntKind.wrap IntKind.i64 ((0 : Int) + (1 : Int)) +
 (1 : Int)) <
 (↑(4 : Nat) : Int)) ∧
 (decide ((65533 : Int) ≤ (65535 : Int)) = true →
 IntKind.wrap IntKind.i64
 (IntKind.wrap IntKind.i64
 (IntKind.wrap IntKind.i64
 ((0 : Int) + (1 : Int)) +
 (1 : Int)) +
 (1 : Int)) =
 sizeR x.fst) ∧
 (decide ((65533 : Int) ≤ (65535 : Int)) = false →
 (decide
 (IntKind.wrap IntKind.i64
 (IntKind.wrap IntKind.i64
 (IntKind.wrap IntKind.i64
 ((0 : Int) + (1 : Int)) +
 (1 : Int)) +
 (1 : Int)) <
 (4 : Int)) =
 true →
 ((0 : Int) ≤
 IntKind.wrap IntKind.i64
 (IntKind.wrap IntKind.i64
 (IntKind.wrap IntKind.i64
 ((0 : Int) + (1 : Int)) +
 (1 : Int)) +
 (1 : Int)) ∧
 IntKind.wrap IntKind.i64
 (IntKind.wrap IntKind.i64
 (IntKind.wrap IntKind.i64
 ((0 : Int) + (1 : Int)) +
 (1 : Int)) +
 (1 : Int)) <
 (↑(4 : Nat) : Int)) ∧
 (decide ((65533 : Int) ≤ (1114111 : Int)) = true →
 IntKind.wrap IntKind.i64
 (IntKind.wrap IntKind.i64
 (IntKind.wrap IntKind.i64
 (IntKind.wrap IntKind.i64
 ((0 : Int) + (1 : Int)) +
 (1 : Int)) +
 (1 : Int)) +
 (1 : Int)) =
 sizeR x.fst) ∧
 (decide ((65533 : Int) ≤ (1114111 : Int)) =
 false →
 (decide
 (IntKind.wrap IntKind.i64
 (IntKind.wrap IntKind.i64
 (IntKind.wrap IntKind.i64
 (IntKind.wrap IntKind.i64
 ((0 : Int) +
 (1 : Int)) +
 (1 : Int)) +
 (1 : Int)) +
 (1 : Int)) <
 (4 : Int)) =
 true →
 False) ∧
 (decide
 (IntKind.wrap IntKind.i64
 (IntKind.wrap IntKind.i64
 (IntKind.wrap IntKind.i64
 (IntKind.wrap IntKind.i64
 ((0 : Int) +
 (1 : Int)) +
 (1 : Int)) +
 (1 : Int)) +
 (1 : Int)) <
 (4 : Int)) =
 false →
 (0 : Int) = sizeR x.fst))) ∧
 (decide
 (IntKind.wrap IntKind.i64
 (IntKind.wrap IntKind.i64
 (IntKind.wrap IntKind.i64
 ((0 : Int) + (1 : Int)) +
 (1 : Int)) +
 (1 : Int)) <
 (4 : Int)) =
 false →
 (0 : Int) = sizeR x.fst))) ∧
 (decide
 (IntKind.wrap IntKind.i64
 (IntKind.wrap IntKind.i64 ((0 : Int) + (1 : Int)) +
 (1 : Int)) <
 (4 : Int)) =
 false →
 (0 : Int) = sizeR x.fst))) ∧
 (decide (IntKind.wrap IntKind.i64 ((0 : Int) + (1 : Int)) < (4 : Int)) =
 false →
 (0 : Int) = sizeR x.fst))) ∧
 (decide ((0 : Int) < (4 : Int)) = false → (0 : Int) = sizeR x.fst))) ∧
 ((!right (65533 : Int)) = false →
 (decide ((0 : Int) < (4 : Int)) = true →
 ((0 : Int) ≤ (0 : Int) ∧ (0 : Int) < (↑(4 : Nat) : Int)) ∧
 (decide ((65533 : Int) ≤ (127 : Int)) = true →
 IntKind.wrap IntKind.i64 ((0 : Int) + (1 : Int)) = sizeR x.fst) ∧
 (decide ((65533 : Int) ≤ (127 : Int)) = false →
 (decide (IntKind.wrap IntKind.i64 ((0 : Int) + (1 : Int)) < (4 : Int)) = true →
 ((0 : Int) ≤ IntKind.wrap IntKind.i64 ((0 : Int) + (1 : Int)) ∧
 IntKind.wrap IntKind.i64 ((0 : Int) + (1 : Int)) < (↑(4 : Nat) : Int)) ∧
 (decide ((65533 : Int) ≤ (2047 : Int)) = true →
 IntKind.wrap IntKind.i64
 (IntKind.wrap IntKind.i64 ((0 : Int) + (1 : Int)) + (1 : Int)) =
 sizeR x.fst) ∧
 (decide ((65533 : Int) ≤ (2047 : Int)) = false →
 (decide
 (IntKind.wrap IntKind.i64
 (IntKind.wrap IntKind.i64 ((0 : Int) + (1 : Int)) +
 (1 : Int)) <
 (4 : Int)) =
 true →
 ((0 : Int) ≤
 IntKind.wrap IntKind.i64
 (IntKind.wrap IntKind.i64 ((0 : Int) + (1 : Int)) +
 (1 : Int)) ∧
 IntKind.wrap IntKind.i64
 (IntKind.wrap IntKind.i64 ((0 : Int) + (1 : Int)) +
 (1 : Int)) <
 (↑(4 : Nat) : Int)) ∧
 (decide ((65533 : Int) ≤ (65535 : Int)) = true →
 IntKind.wrap IntKind.i64
 (IntKind.wrap IntKind.i64
 (IntKind.wrap IntKind.i64 ((0 : Int) + (1 : Int)) +
 (1 : Int)) +
 (1 : Int)) =
 sizeR x.fst) ∧
 (decide ((65533 : Int) ≤ (65535 : Int)) = false →
 (decide
 (IntKind.wrap IntKind.i64
 (IntKind.wrap IntKind.i64
 (IntKind.wrap IntKind.i64
 ((0 : Int) + (1 : Int)) +
 (1 : Int)) +
 (1 : Int)) <
 (4 : Int)) =
 true →
 ((0 : Int) ≤
 IntKind.wrap IntKind.i64
 (IntKind.wrap IntKind.i64
 (IntKind.wrap IntKind.i64
 ((0 : Int) + (1 : Int)) +
 (1 : Int)) +
 (1 : Int)) ∧
 IntKind.wrap IntKind.i64
 (IntKind.wrap IntKind.i64
 (IntKind.wrap IntKind.i64
 ((0 : Int) + (1 : Int)) +
 (1 : Int)) +
 (1 : Int)) <
 (↑(4 : Nat) : Int)) ∧
 (decide ((65533 : Int) ≤ (1114111 : Int)) = true →
 IntKind.wrap IntKind.i64
 (IntKind.wrap IntKind.i64
 (IntKind.wrap IntKind.i64
 (IntKind.wrap IntKind.i64
 ((0 : Int) + (1 : Int)) +
 (1 : Int)) +
 (1 : Int)) +
 (1 : Int)) =
 sizeR x.fst) ∧
 (decide ((65533 : Int) ≤ (1114111 : Int)) = false →
 (decide
 (IntKind.wrap IntKind.i64
 (IntKind.wrap IntKind.i64
 (IntKind.wrap IntKind.i64
 (IntKind.wrap IntKind.i64
 ((0 : Int) + (1 : Int)) +
 (1 : Int)) +
 (1 : Int)) +
 (1 : Int)) <
 (4 : Int)) =
 true →
 False) ∧
 (decide
 (IntKind.wrap IntKind.i64
 (IntKind.wrap IntKind.i64
 (IntKind.wrap IntKind.i64
 (IntKind.wrap IntKind.i64
 ((0 : Int) + (1 : Int)) +
 (1 : Int)) +
 (1 : Int)) +
 (1 : Int)) <
 (4 : Int)) =
 false →
 (0 : Int) = sizeR x.fst))) ∧
 (decide
 (IntKind.wrap IntKind.i64
 (IntKind.wrap IntKind.i64
 (IntKind.wrap IntKind.i64
 ((0 : Int) + (1 : Int)) +
 (1 : Int)) +
 (1 : Int)) <
 (4 : Int)) =
 false →
 (0 : Int) = sizeR x.fst))) ∧
 (decide
 (IntKind.wrap IntKind.i64
 (IntKind.wrap IntKind.i64 ((0 : Int) + (1 : Int)) +
 (1 : Int)) <
 (4 : Int)) =
 false →
 (0 : Int) = sizeR x.fst))) ∧
 (decide (IntKind.wrap IntKind.i64 ((0 : Int) + (1 : Int)) < (4 : Int)) = false →
 (0 : Int) = sizeR x.fst))) ∧
 (decide ((0 : Int) < (4 : Int)) = false → (0 : Int) = sizeR x.fst))) ∧
 ((!right (65533 : Int)) = false →
 (decide ((0 : Int) < (4 : Int)) = true →
 ((0 : Int) ≤ (0 : Int) ∧ (0 : Int) < (↑(4 : Nat) : Int)) ∧
 (decide ((65533 : Int) ≤ (127 : Int)) = true →
 IntKind.wrap IntKind.i64 ((0 : Int) + (1 : Int)) = sizeR x.fst) ∧
 (decide ((65533 : Int) ≤ (127 : Int)) = false →
 (decide (IntKind.wrap IntKind.i64 ((0 : Int) + (1 : Int)) < (4 : Int)) = true →
 ((0 : Int) ≤ IntKind.wrap IntKind.i64 ((0 : Int) + (1 : Int)) ∧
 IntKind.wrap IntKind.i64 ((0 : Int) + (1 : Int)) < (↑(4 : Nat) : Int)) ∧
 (decide ((65533 : Int) ≤ (2047 : Int)) = true →
 IntKind.wrap IntKind.i64
 (IntKind.wrap IntKind.i64 ((0 : Int) + (1 : Int)) + (1 : Int)) =
 sizeR x.fst) ∧
 (decide ((65533 : Int) ≤ (2047 : Int)) = false →
 (decide
 (IntKind.wrap IntKind.i64
 (IntKind.wrap IntKind.i64 ((0 : Int) + (1 : Int)) + (1 : Int)) <
 (4 : Int)) =
 true →
 ((0 : Int) ≤
 IntKind.wrap IntKind.i64
 (IntKind.wrap IntKind.i64 ((0 : Int) + (1 : Int)) + (1 : Int)) ∧
 IntKind.wrap IntKind.i64
 (IntKind.wrap IntKind.i64 ((0 : Int) + (1 : Int)) + (1 : Int)) <
 (↑(4 : Nat) : Int)) ∧
 (decide ((65533 : Int) ≤ (65535 : Int)) = true →
 IntKind.wrap IntKind.i64
 (IntKind.wrap IntKind.i64
 (IntKind.wrap IntKind.i64 ((0 : Int) + (1 : Int)) +
 (1 : Int)) +
 (1 : Int)) =
 sizeR x.fst) ∧
 (decide ((65533 : Int) ≤ (65535 : Int)) = false →
 (decide
 (IntKind.wrap IntKind.i64
 (IntKind.wrap IntKind.i64
 (IntKind.wrap IntKind.i64 ((0 : Int) + (1 : Int)) +
 (1 : Int)) +
 (1 : Int)) <
 (4 : Int)) =
 true →
 ((0 : Int) ≤
 IntKind.wrap IntKind.i64
 (IntKind.wrap IntKind.i64
 (IntKind.wrap IntKind.i64 ((0 : Int) + (1 : Int)) +
 (1 : Int)) +
 (1 : Int)) ∧
 IntKind.wrap IntKind.i64
 (IntKind.wrap IntKind.i64
 (IntKind.wrap IntKind.i64 ((0 : Int) + (1 : Int)) +
 (1 : Int)) +
 (1 : Int)) <
 (↑(4 : Nat) : Int)) ∧
 (decide ((65533 : Int) ≤ (1114111 : Int)) = true →
 IntKind.wrap IntKind.i64
 (IntKind.wrap IntKind.i64
 (IntKind.wrap IntKind.i64
 (IntKind.wrap IntKind.i64
 ((0 : Int) + (1 : Int)) +
 (1 : Int)) +
 (1 : Int)) +
 (1 : Int)) =
 sizeR x.fst) ∧
 (decide ((65533 : Int) ≤ (1114111 : Int)) = false →
 (decide
 (IntKind.wrap IntKind.i64
 (IntKind.wrap IntKind.i64
 (IntKind.wrap IntKind.i64
 (IntKind.wrap IntKind.i64
 ((0 : Int) + (1 : Int)) +
 (1 : Int)) +
 (1 : Int)) +
 (1 : Int)) <
 (4 : Int)) =
 true →
 False) ∧
 (decide
 (IntKind.wrap IntKind.i64
 (IntKind.wrap IntKind.i64
 (IntKind.wrap IntKind.i64
 (IntKind.wrap IntKind.i64
 ((0 : Int) + (1 : Int)) +
 (1 : Int)) +
 (1 : Int)) +
 (1 : Int)) <
 (4 : Int)) =
 false →
 (0 : Int) = sizeR x.fst))) ∧
 (decide
 (IntKind.wrap IntKind.i64
 (IntKind.wrap IntKind.i64
 (IntKind.wrap IntKind.i64 ((0 : Int) + (1 : Int)) +
 (1 : Int)) +
 (1 : Int)) <
 (4 : Int)) =
 false →
 (0 : Int) = sizeR x.fst))) ∧
 (decide
 (IntKind.wrap IntKind.i64
 (IntKind.wrap IntKind.i64 ((0 : Int) + (1 : Int)) + (1 : Int)) <
 (4 : Int)) =
 false →
 (0 : Int) = sizeR x.fst))) ∧
 (decide (IntKind.wrap IntKind.i64 ((0 : Int) + (1 : Int)) < (4 : Int)) = false →
 (0 : Int) = sizeR x.fst))) ∧
 (decide ((0 : Int) < (4 : Int)) = false → (0 : Int) = sizeR x.fst))) ∧
 ((!right (65533 : Int)) = false →
 (decide ((0 : Int) < (4 : Int)) = true →
 ((0 : Int) ≤ (0 : Int) ∧ (0 : Int) < (↑(4 : Nat) : Int)) ∧
 (decide ((65533 : Int) ≤ (127 : Int)) = true →
 IntKind.wrap IntKind.i64 ((0 : Int) + (1 : Int)) = sizeR x.fst) ∧
 (decide ((65533 : Int) ≤ (127 : Int)) = false →
 (decide (IntKind.wrap IntKind.i64 ((0 : Int) + (1 : Int)) < (4 : Int)) = true →
 ((0 : Int) ≤ IntKind.wrap IntKind.i64 ((0 : Int) + (1 : Int)) ∧
 IntKind.wrap IntKind.i64 ((0 : Int) + (1 : Int)) < (↑(4 : Nat) : Int)) ∧
 (decide ((65533 : Int) ≤ (2047 : Int)) = true →
 IntKind.wrap IntKind.i64
 (IntKind.wrap IntKind.i64 ((0 : Int) + (1 : Int)) + (1 : Int)) =
 sizeR x.fst) ∧
 (decide ((65533 : Int) ≤ (2047 : Int)) = false →
 (decide
 (IntKind.wrap IntKind.i64
 (IntKind.wrap IntKind.i64 ((0 : Int) + (1 : Int)) + (1 : Int)) <
 (4 : Int)) =
 true →
 ((0 : Int) ≤
 IntKind.wrap IntKind.i64
 (IntKind.wrap IntKind.i64 ((0 : Int) + (1 : Int)) + (1 : Int)) ∧
 IntKind.wrap IntKind.i64
 (IntKind.wrap IntKind.i64 ((0 : Int) + (1 : Int)) + (1 : Int)) <
 (↑(4 : Nat) : Int)) ∧
 (decide ((65533 : Int) ≤ (65535 : Int)) = true →
 IntKind.wrap IntKind.i64
 (IntKind.wrap IntKind.i64
 (IntKind.wrap IntKind.i64 ((0 : Int) + (1 : Int)) + (1 : Int)) +
 (1 : Int)) =
 sizeR x.fst) ∧
 (decide ((65533 : Int) ≤ (65535 : Int)) = false →
 (decide
 (IntKind.wrap IntKind.i64
 (IntKind.wrap IntKind.i64
 (IntKind.wrap IntKind.i64 ((0 : Int) + (1 : Int)) +
 (1 : Int)) +
 (1 : Int)) <
 (4 : Int)) =
 true →
 ((0 : Int) ≤
 IntKind.wrap IntKind.i64
 (IntKind.wrap IntKind.i64
 (IntKind.wrap IntKind.i64 ((0 : Int) + (1 : Int)) +
 (1 : Int)) +
 (1 : Int)) ∧
 IntKind.wrap IntKind.i64
 (IntKind.wrap IntKind.i64
 (IntKind.wrap IntKind.i64 ((0 : Int) + (1 : Int)) +
 (1 : Int)) +
 (1 : Int)) <
 (↑(4 : Nat) : Int)) ∧
 (decide ((65533 : Int) ≤ (1114111 : Int)) = true →
 IntKind.wrap IntKind.i64
 (IntKind.wrap IntKind.i64
 (IntKind.wrap IntKind.i64
 (IntKind.wrap IntKind.i64 ((0 : Int) + (1 : Int)) +
 (1 : Int)) +
 (1 : Int)) +
 (1 : Int)) =
 sizeR x.fst) ∧
 (decide ((65533 : Int) ≤ (1114111 : Int)) = false →
 (decide
 (IntKind.wrap IntKind.i64
 (IntKind.wrap IntKind.i64
 (IntKind.wrap IntKind.i64
 (IntKind.wrap IntKind.i64
 ((0 : Int) + (1 : Int)) +
 (1 : Int)) +
 (1 : Int)) +
 (1 : Int)) <
 (4 : Int)) =
 true →
 False) ∧
 (decide
 (IntKind.wrap IntKind.i64
 (IntKind.wrap IntKind.i64
 (IntKind.wrap IntKind.i64
 (IntKind.wrap IntKind.i64
 ((0 : Int) + (1 : Int)) +
 (1 : Int)) +
 (1 : Int)) +
 (1 : Int)) <
 (4 : Int)) =
 false →
 (0 : Int) = sizeR x.fst))) ∧
 (decide
 (IntKind.wrap IntKind.i64
 (IntKind.wrap IntKind.i64
 (IntKind.wrap IntKind.i64 ((0 : Int) + (1 : Int)) +
 (1 : Int)) +
 (1 : Int)) <
 (4 : Int)) =
 false →
 (0 : Int) = sizeR x.fst))) ∧
 (decide
 (IntKind.wrap IntKind.i64
 (IntKind.wrap IntKind.i64 ((0 : Int) + (1 : Int)) + (1 : Int)) <
 (4 : Int)) =
 false →
 (0 : Int) = sizeR x.fst))) ∧
 (decide (IntKind.wrap IntKind.i64 ((0 : Int) + (1 : Int)) < (4 : Int)) = false →
 (0 : Int) = sizeR x.fst))) ∧
 (decide ((0 : Int) < (4 : Int)) = false → (0 : Int) = sizeR x.fst))) ∧
 ((!right x.fst) = false →
 (decide ((0 : Int) < (4 : Int)) = true →
 ((0 : Int) ≤ (0 : Int) ∧ (0 : Int) < (↑(4 : Nat) : Int)) ∧
 (decide (x.fst ≤ (127 : Int)) = true → IntKind.wrap IntKind.i64 ((0 : Int) + (1 : Int)) = sizeR x.fst) ∧
 (decide (x.fst ≤ (127 : Int)) = false →
 (decide (IntKind.wrap IntKind.i64 ((0 : Int) + (1 : Int)) < (4 : Int)) = true →
 ((0 : Int) ≤ IntKind.wrap IntKind.i64 ((0 : Int) + (1 : Int)) ∧
 IntKind.wrap IntKind.i64 ((0 : Int) + (1 : Int)) < (↑(4 : Nat) : Int)) ∧
 (decide (x.fst ≤ (2047 : Int)) = true →
 IntKind.wrap IntKind.i64 (IntKind.wrap IntKind.i64 ((0 : Int) + (1 : Int)) + (1 : Int)) =
 sizeR x.fst) ∧
 (decide (x.fst ≤ (2047 : Int)) = false →
 (decide
 (IntKind.wrap IntKind.i64
 (IntKind.wrap IntKind.i64 ((0 : Int) + (1 : Int)) + (1 : Int)) <
 (4 : Int)) =
 true →
 ((0 : Int) ≤
 IntKind.wrap IntKind.i64
 (IntKind.wrap IntKind.i64 ((0 : Int) + (1 : Int)) + (1 : Int)) ∧
 IntKind.wrap IntKind.i64
 (IntKind.wrap IntKind.i64 ((0 : Int) + (1 : Int)) + (1 : Int)) <
 (↑(4 : Nat) : Int)) ∧
 (decide (x.fst ≤ (65535 : Int)) = true →
 IntKind.wrap IntKind.i64
 (IntKind.wrap IntKind.i64
 (IntKind.wrap IntKind.i64 ((0 : Int) + (1 : Int)) + (1 : Int)) +
 (1 : Int)) =
 sizeR x.fst) ∧
 (decide (x.fst ≤ (65535 : Int)) = false →
 (decide
 (IntKind.wrap IntKind.i64
 (IntKind.wrap IntKind.i64
 (IntKind.wrap IntKind.i64 ((0 : Int) + (1 : Int)) + (1 : Int)) +
 (1 : Int)) <
 (4 : Int)) =
 true →
 ((0 : Int) ≤
 IntKind.wrap IntKind.i64
 (IntKind.wrap IntKind.i64
 (IntKind.wrap IntKind.i64 ((0 : Int) + (1 : Int)) + (1 : Int)) +
 (1 : Int)) ∧
 IntKind.wrap IntKind.i64
 (IntKind.wrap IntKind.i64
 (IntKind.wrap IntKind.i64 ((0 : Int) + (1 : Int)) + (1 : Int)) +
 (1 : Int)) <
 (↑(4 : Nat) : Int)) ∧
 (decide (x.fst ≤ (1114111 : Int)) = true →
 IntKind.wrap IntKind.i64
 (IntKind.wrap IntKind.i64
 (IntKind.wrap IntKind.i64
 (IntKind.wrap IntKind.i64 ((0 : Int) + (1 : Int)) +
 (1 : Int)) +
 (1 : Int)) +
 (1 : Int)) =
 sizeR x.fst) ∧
 (decide (x.fst ≤ (1114111 : Int)) = false →
 (decide
 (IntKind.wrap IntKind.i64
 (IntKind.wrap IntKind.i64
 (IntKind.wrap IntKind.i64
 (IntKind.wrap IntKind.i64
 ((0 : Int) + (1 : Int)) +
 (1 : Int)) +
 (1 : Int)) +
 (1 : Int)) <
 (4 : Int)) =
 true →
 False) ∧
 (decide
 (IntKind.wrap IntKind.i64
 (IntKind.wrap IntKind.i64
 (IntKind.wrap IntKind.i64
 (IntKind.wrap IntKind.i64
 ((0 : Int) + (1 : Int)) +
 (1 : Int)) +
 (1 : Int)) +
 (1 : Int)) <
 (4 : Int)) =
 false →
 (0 : Int) = sizeR x.fst))) ∧
 (decide
 (IntKind.wrap IntKind.i64
 (IntKind.wrap IntKind.i64
 (IntKind.wrap IntKind.i64 ((0 : Int) + (1 : Int)) + (1 : Int)) +
 (1 : Int)) <
 (4 : Int)) =
 false →
 (0 : Int) = sizeR x.fst))) ∧
 (decide
 (IntKind.wrap IntKind.i64
 (IntKind.wrap IntKind.i64 ((0 : Int) + (1 : Int)) + (1 : Int)) <
 (4 : Int)) =
 false →
 (0 : Int) = sizeR x.fst))) ∧
 (decide (IntKind.wrap IntKind.i64 ((0 : Int) + (1 : Int)) < (4 : Int)) = false →
 (0 : Int) = sizeR x.fst))) ∧
 (decide ((0 : Int) < (4 : Int)) = false → (0 : Int) = sizeR x.fst))
theorem vcEq10 : fnVC E10 Tryd.f10 (bodyOf Tryd.f10) cSize = vc10 := by kernel_rfl
/- fn 11 -/
def hs11 : List (Nat × Nat × Hint) := []
def nm11 : List Nat := []
noncomputable def E11 : Env := env tab [(24, cUSize)] [] gl hs11 nm11
def vc11 : Prop :=
 ∀ (x : Int × Unit),
 True →
 True ∧
 ((uSize x.fst == (0 : Int)) = true → (3 : Int) = sizeR x.fst) ∧
 ((uSize x.fst == (0 : Int)) = false → uSize x.fst = sizeR x.fst)
theorem vcEq11 : fnVC E11 Tryd.f11 (bodyOf Tryd.f11) cRSize = vc11 := by kernel_rfl
/- fn 12 -/
def hs12 : List (Nat × Nat × Hint) := [(0, 3, ⟨[.rowS 3 900000003 t5 5, .slot 8 t3], [6, 7], [], []⟩)]
def nm12 : List Nat := []
noncomputable def E12 : Env := env tab [(23, cRight)] [] gl hs12 nm12
def vc12 : Prop :=
 ∀ (x : List Int × Unit),
 List.length x.fst ≤ (1000000000 : Nat) →
 (((0 : Int) = (0 : Int) ∧ True ∧ x.fst = x.fst ∧ (↑(List.length x.fst) : Int) = (↑(List.length x.fst) : Int)) ∧
 True ∧ True) ∧
 ∃ (Z : List Int × Int × Unit → Prop),
 ∃ (μ : List Int × Int × Unit → Nat),
 Z ([], (0 : Int), ()) ∧
 ∀ (a : List Int) (a_1 : Int),
 Z (a, a_1, ()) →
 (decide (a_1 < (↑(List.length x.fst) : Int)) = true →
 ((0 : Int) ≤ a_1 ∧ a_1 < (↑(List.length x.fst) : Int)) ∧
 True ∧
 ((!right (List.getD x.fst (Int.toNat a_1) (Ty.dflt t21))) = true →
 (List.length a + List.length (strBytes (Utf8.encode (65533 : Int)))) * (1 : Nat) ≤
 (140737488355328 : Nat) ∧
 List.length a + List.length (strBytes (Utf8.encode (65533 : Int))) ≤ maxLen ∧
 ((IntKind.wrap IntKind.i64 (a_1 + (1 : Int)) =
 IntKind.wrap IntKind.i64 (a_1 + (1 : Int)) ∧
 True ∧
 x.fst = x.fst ∧ (↑(List.length x.fst) : Int) = (↑(List.length x.fst) : Int)) ∧
 a ++ strBytes (Utf8.encode (65533 : Int)) =
 a ++ strBytes (Utf8.encode (65533 : Int)) ∧
 True) ∧
 Z
 (a ++ strBytes (Utf8.encode (65533 : Int)),
 IntKind.wrap IntKind.i64 (a_1 + (1 : Int)), ()) ∧
 μ
 (a ++ strBytes (Utf8.encode (65533 : Int)),
 IntKind.wrap IntKind.i64 (a_1 + (1 : Int)), ()) <
 μ (a, a_1, ())) ∧
 ((!right (List.getD x.fst (Int.toNat a_1) (Ty.dflt t21))) = false →
 (List.length a +
 List.length
 (strBytes (Utf8.encode (List.getD x.fst (Int.toNat a_1) (Ty.dflt t21))))) *
 (1 : Nat) ≤
 (140737488355328 : Nat) ∧
 List.length a +
 List.length
 (strBytes (Utf8.encode (List.getD x.fst (Int.toNat a_1) (Ty.dflt t21)))) ≤
 maxLen ∧
 ((IntKind.wrap IntKind.i64 (a_1 + (1 : Int)) =
 IntKind.wrap IntKind.i64 (a_1 + (1 : Int)) ∧
 True ∧
 x.fst = x.fst ∧ (↑(List.length x.fst) : Int) = (↑(List.length x.fst) : Int)) ∧
 a ++ strBytes (Utf8.encode (List.getD x.fst (Int.toNat a_1) (Ty.dflt t21))) =
 a ++ strBytes (Utf8.encode (List.getD x.fst (Int.toNat a_1) (Ty.dflt t21))) ∧
 True) ∧
 Z
 (a ++ strBytes (Utf8.encode (List.getD x.fst (Int.toNat a_1) (Ty.dflt t21))),
 IntKind.wrap IntKind.i64 (a_1 + (1 : Int)), ()) ∧
 μ
 (a ++ strBytes (Utf8.encode (List.getD x.fst (Int.toNat a_1) (Ty.dflt t21))),
 IntKind.wrap IntKind.i64 (a_1 + (1 : Int)), ()) <
 μ (a, a_1, ()))) ∧
 (decide (a_1 < (↑(List.length x.fst) : Int)) = false → bytesOf a = encode x.fst)
theorem vcEq12 : fnVC E12 Tryd.f12 (bodyOf Tryd.f12) cEncode = vc12 := by kernel_rfl
/- fn 13 -/
def hs13 : List (Nat × Nat × Hint) := [(0, 3, ⟨[.slot 3 t9, .slot 9 t3], [7, 8], [], []⟩)]
def nm13 : List Nat := []
noncomputable def E13 : Env := env tab [(24, cUSize), (25, cOne)] [] gl hs13 nm13
def vc13 : Prop :=
 ∀ (x : List Int × Unit),
 List.length x.fst ≤ (1000000000 : Nat) →
 ((0 : Int) = (0 : Int) ∧
 (ByteArray.mk #[]) = (ByteArray.mk #[]) ∧
 x.fst = x.fst ∧ (↑(List.length x.fst) : Int) = (↑(List.length x.fst) : Int)) ∧
 ∃ (Z : ByteArray × Int × Unit → Prop),
 ∃ (μ : ByteArray × Int × Unit → Nat),
 Z ((ByteArray.mk #[]), (0 : Int), ()) ∧
 ∀ (a : ByteArray) (a_1 : Int),
 Z (a, a_1, ()) →
 (decide (a_1 < (↑(List.length x.fst) : Int)) = true →
 ((0 : Int) ≤ a_1 ∧ a_1 < (↑(List.length x.fst) : Int)) ∧
 True ∧
 ((uSize (List.getD x.fst (Int.toNat a_1) (Ty.dflt t21)) == (0 : Int)) = true →
 ((0 : Int) ≤ (65533 : Int) ∧
 (65533 : Int) ≤ (1114111 : Int) ∧ uSize (65533 : Int) = (3 : Int)) ∧
 ByteArray.size a + ByteArray.size (bytesOf (uBytes (65533 : Int) (3 : Int))) ≤
 (9223372036854775807 : Nat) ∧
 (IntKind.wrap IntKind.i64 (a_1 + (1 : Int)) =
 IntKind.wrap IntKind.i64 (a_1 + (1 : Int)) ∧
 a ++ bytesOf (uBytes (65533 : Int) (3 : Int)) =
 a ++ bytesOf (uBytes (65533 : Int) (3 : Int)) ∧
 x.fst = x.fst ∧ (↑(List.length x.fst) : Int) = (↑(List.length x.fst) : Int)) ∧
 Z
 (a ++ bytesOf (uBytes (65533 : Int) (3 : Int)),
 IntKind.wrap IntKind.i64 (a_1 + (1 : Int)), ()) ∧
 μ
 (a ++ bytesOf (uBytes (65533 : Int) (3 : Int)),
 IntKind.wrap IntKind.i64 (a_1 + (1 : Int)), ()) <
 μ (a, a_1, ())) ∧
 ((uSize (List.getD x.fst (Int.toNat a_1) (Ty.dflt t21)) == (0 : Int)) = false →
 ((0 : Int) ≤ List.getD x.fst (Int.toNat a_1) (Ty.dflt t21) ∧
 List.getD x.fst (Int.toNat a_1) (Ty.dflt t21) ≤ (1114111 : Int) ∧
 uSize (List.getD x.fst (Int.toNat a_1) (Ty.dflt t21)) =
 uSize (List.getD x.fst (Int.toNat a_1) (Ty.dflt t21))) ∧
 ByteArray.size a +
 ByteArray.size
 (bytesOf
 (uBytes (List.getD x.fst (Int.toNat a_1) (Ty.dflt t21))
 (uSize (List.getD x.fst (Int.toNat a_1) (Ty.dflt t21))))) ≤
 (9223372036854775807 : Nat) ∧
 (IntKind.wrap IntKind.i64 (a_1 + (1 : Int)) =
 IntKind.wrap IntKind.i64 (a_1 + (1 : Int)) ∧
 a ++
 bytesOf
 (uBytes (List.getD x.fst (Int.toNat a_1) (Ty.dflt t21))
 (uSize (List.getD x.fst (Int.toNat a_1) (Ty.dflt t21)))) =
 a ++
 bytesOf
 (uBytes (List.getD x.fst (Int.toNat a_1) (Ty.dflt t21))
 (uSize (List.getD x.fst (Int.toNat a_1) (Ty.dflt t21)))) ∧
 x.fst = x.fst ∧ (↑(List.length x.fst) : Int) = (↑(List.length x.fst) : Int)) ∧
 Z
 (a ++
 bytesOf
 (uBytes (List.getD x.fst (Int.toNat a_1) (Ty.dflt t21))
 (uSize (List.getD x.fst (Int.toNat a_1) (Ty.dflt t21)))),
 IntKind.wrap IntKind.i64 (a_1 + (1 : Int)), ()) ∧
 μ
 (a ++
 bytesOf
 (uBytes (List.getD x.fst (Int.toNat a_1) (Ty.dflt t21))
 (uSize (List.getD x.fst (Int.toNat a_1) (Ty.dflt t21)))),
 IntKind.wrap IntKind.i64 (a_1 + (1 : Int)), ()) <
 μ (a, a_1, ()))) ∧
 (decide (a_1 < (↑(List.length x.fst) : Int)) = false → a = encode x.fst)
theorem vcEq13 : fnVC E13 Tryd.f13 (bodyOf Tryd.f13) cREncode = vc13 := by kernel_rfl
/- fn 14 -/
def hs14 : List (Nat × Nat × Hint) := [(0, 3, ⟨[.rowS 3 900000003 t21 21, .pos 7], [7], [7], []⟩)]
def nm14 : List Nat := []
noncomputable def E14 : Env := env tab [] [] gl hs14 nm14
def vc14 : Prop :=
 ∀ (x : ByteArray × Unit),
 ByteArray.size x.fst ≤ (1000000000 : Nat) →
 ((True ∧ True) ∧ (True ∧ x.fst = x.fst ∧ (0 : Nat) = (0 : Nat)) ∧ True ∧ True) ∧
 ∃ (Z : List Int × Nat × Unit → Prop),
 ∃ (μ : List Int × Nat × Unit → Nat),
 Z ([], (0 : Nat), ()) ∧
 ∀ (a : List Int) (a_1 : Nat),
 Z (a, a_1, ()) →
 (decide (a_1 < ByteArray.size x.fst) = true →
 (true = true →
 (List.length a + List.length [(↑(Utf8.decode x.fst a_1).fst : Int)]) * (4 : Nat) ≤
 (140737488355328 : Nat) ∧
 List.length a + List.length [(↑(Utf8.decode x.fst a_1).fst : Int)] ≤ maxLen ∧
 ((True ∧ True) ∧
 (True ∧
 x.fst = x.fst ∧
 a_1 + (Utf8.decode x.fst a_1).snd = a_1 + (Utf8.decode x.fst a_1).snd) ∧
 a ++ [(↑(Utf8.decode x.fst a_1).fst : Int)] =
 a ++ [(↑(Utf8.decode x.fst a_1).fst : Int)] ∧
 True) ∧
 Z (a ++ [(↑(Utf8.decode x.fst a_1).fst : Int)], a_1 + (Utf8.decode x.fst a_1).snd, ()) ∧
 μ (a ++ [(↑(Utf8.decode x.fst a_1).fst : Int)], a_1 + (Utf8.decode x.fst a_1).snd, ()) <
 μ (a, a_1, ())) ∧
 (true = false → a = decodeL x.fst)) ∧
 (decide (a_1 < ByteArray.size x.fst) = false →
 (false = true → False) ∧ (false = false → a = decodeL x.fst))
theorem vcEq14 : fnVC E14 Tryd.f14 (bodyOf Tryd.f14) cDecode = vc14 := by kernel_rfl
/- fn 15 -/
def hs15 : List (Nat × Nat × Hint) := []
def nm15 : List Nat := []
noncomputable def E15 : Env := env tab [(14, cDecode), (12, cEncode)] [] gl hs15 nm15
def vc15 : Prop :=
 ∀ (x : ByteArray × Unit),
 ByteArray.size x.fst ≤ (100000000 : Nat) →
 ByteArray.size x.fst ≤ (1000000000 : Nat) ∧
 List.length (decodeL x.fst) ≤ (1000000000 : Nat) ∧ encode (decodeL x.fst) = clean x.fst
theorem vcEq15 : fnVC E15 Tryd.f15 (bodyOf Tryd.f15) cClean = vc15 := by kernel_rfl
/- fn 16 -/
def hs16 : List (Nat × Nat × Hint) := []
def nm16 : List Nat := []
noncomputable def E16 : Env := env tab [(15, cClean)] [] gl hs16 nm16
def vc16 : Prop :=
 ∀ (x : ByteArray × Unit),
 ByteArray.size x.fst ≤ (100000000 : Nat) →
 ByteArray.size x.fst ≤ (100000000 : Nat) ∧ (ByteArray.toList (clean x.fst) == ByteArray.toList x.fst) = good x.fst
theorem vcEq16 : fnVC E16 Tryd.f16 (bodyOf Tryd.f16) cGood = vc16 := by kernel_rfl
/- fn 17 -/
def hs17 : List (Nat × Nat × Hint) := [(0, 2, ⟨[.slot 8 t3], [0, 1, 7], [], []⟩)]
def nm17 : List Nat := []
noncomputable def E17 : Env := env tab [] [] gl hs17 nm17
def vc17 : Prop :=
 ∀ (x : List Int × List Int × Unit),
 List.length x.fst ≤ maxLen ∧ List.length x.snd.fst ≤ maxLen →
 ((0 : Int) = (0 : Int) ∧
 x.fst = x.fst ∧ x.snd.fst = x.snd.fst ∧ (↑(List.length x.fst) : Int) = (↑(List.length x.fst) : Int)) ∧
 ∃ (Z : Int × Unit → Prop),
 ∃ (μ : Int × Unit → Nat),
 Z ((0 : Int), ()) ∧
 ∀ (a : Int),
 Z (a, ()) →
 (decide (a < (↑(List.length x.fst) : Int)) = true →
 (decide (a ≥ (↑(List.length x.snd.fst) : Int)) = true → false = decide (x.fst = x.snd.fst)) ∧
 (decide (a ≥ (↑(List.length x.snd.fst) : Int)) = false →
 ((0 : Int) ≤ a ∧ a < (↑(List.length x.fst) : Int)) ∧
 ((0 : Int) ≤ a ∧ a < (↑(List.length x.snd.fst) : Int)) ∧
 ((List.getD x.fst (Int.toNat a) (Ty.dflt t21) !=
 List.getD x.snd.fst (Int.toNat a) (Ty.dflt t21)) =
 true →
 false = decide (x.fst = x.snd.fst)) ∧
 ((List.getD x.fst (Int.toNat a) (Ty.dflt t21) !=
 List.getD x.snd.fst (Int.toNat a) (Ty.dflt t21)) =
 false →
 (IntKind.wrap IntKind.i64 (a + (1 : Int)) = IntKind.wrap IntKind.i64 (a + (1 : Int)) ∧
 x.fst = x.fst ∧
 x.snd.fst = x.snd.fst ∧
 (↑(List.length x.fst) : Int) = (↑(List.length x.fst) : Int)) ∧
 Z (IntKind.wrap IntKind.i64 (a + (1 : Int)), ()) ∧
 μ (IntKind.wrap IntKind.i64 (a + (1 : Int)), ()) < μ (a, ())))) ∧
 (decide (a < (↑(List.length x.fst) : Int)) = false →
 ((↑(List.length x.fst) : Int) == (↑(List.length x.snd.fst) : Int)) = decide (x.fst = x.snd.fst))
theorem vcEq17 : fnVC E17 Tryd.f17 (bodyOf Tryd.f17) cRunes = vc17 := by kernel_rfl
/- fn 18 -/
def hs18 : List (Nat × Nat × Hint) := [(0, 3, ⟨[.rowS 3 900000003 t21 21, .slot 4 t3], [0], [], []⟩)]
def nm18 : List Nat := []
noncomputable def E18 : Env := env tab [(22, cRStep)] [] gl hs18 nm18
def vc18 : Prop :=
 ∀ (x : ByteArray × Unit),
 ByteArray.size x.fst ≤ (1000000000 : Nat) →
 (((0 : Int) = (0 : Int) ∧ True ∧ x.fst = x.fst) ∧ True ∧ True) ∧
 ∃ (Z : List Int × Int × Unit → Prop),
 ∃ (μ : List Int × Int × Unit → Nat),
 Z ([], (0 : Int), ()) ∧
 ∀ (a : List Int) (a_1 : Int),
 Z (a, a_1, ()) →
 (decide (a_1 < (↑(ByteArray.size x.fst) : Int)) = true →
 ByteArray.size x.fst ≤ maxLen ∧
 (List.length a + List.length [(uStep x.fst a_1).fst]) * (4 : Nat) ≤ (140737488355328 : Nat) ∧
 List.length a + List.length [(uStep x.fst a_1).fst] ≤ maxLen ∧
 ((IntKind.wrap IntKind.i64 (a_1 + (uStep x.fst a_1).snd.fst) =
 IntKind.wrap IntKind.i64 (a_1 + (uStep x.fst a_1).snd.fst) ∧
 True ∧ x.fst = x.fst) ∧
 a ++ [(uStep x.fst a_1).fst] = a ++ [(uStep x.fst a_1).fst] ∧ True) ∧
 Z
 (a ++ [(uStep x.fst a_1).fst],
 IntKind.wrap IntKind.i64 (a_1 + (uStep x.fst a_1).snd.fst), ()) ∧
 μ
 (a ++ [(uStep x.fst a_1).fst],
 IntKind.wrap IntKind.i64 (a_1 + (uStep x.fst a_1).snd.fst), ()) <
 μ (a, a_1, ())) ∧
 (decide (a_1 < (↑(ByteArray.size x.fst) : Int)) = false → a = decodeL x.fst)
theorem vcEq18 : fnVC E18 Tryd.f18 (bodyOf Tryd.f18) cRDecode = vc18 := by kernel_rfl
/- fn 19 -/
def hs19 : List (Nat × Nat × Hint) := [(0, 3, ⟨[.slot 3 t3, .pos 5], [5], [5], []⟩)]
def nm19 : List Nat := []
noncomputable def E19 : Env := env tab [] [] gl hs19 nm19
def vc19 : Prop :=
 ∀ (x : ByteArray × Unit),
 ByteArray.size x.fst ≤ maxLen →
 (((0 : Int) = (0 : Int) ∧ True) ∧ True ∧ x.fst = x.fst ∧ (0 : Nat) = (0 : Nat)) ∧
 ∃ (Z : Int × Nat × Unit → Prop),
 ∃ (μ : Int × Nat × Unit → Nat),
 Z ((0 : Int), (0 : Nat), ()) ∧
 ∀ (a : Int) (a_1 : Nat),
 Z (a, a_1, ()) →
 (decide (a_1 < ByteArray.size x.fst) = true →
 (true = true →
 ((IntKind.wrap IntKind.i64 (a + (1 : Int)) = IntKind.wrap IntKind.i64 (a + (1 : Int)) ∧ True) ∧
 True ∧
 x.fst = x.fst ∧ a_1 + (Utf8.decode x.fst a_1).snd = a_1 + (Utf8.decode x.fst a_1).snd) ∧
 Z (IntKind.wrap IntKind.i64 (a + (1 : Int)), a_1 + (Utf8.decode x.fst a_1).snd, ()) ∧
 μ (IntKind.wrap IntKind.i64 (a + (1 : Int)), a_1 + (Utf8.decode x.fst a_1).snd, ()) <
 μ (a, a_1, ())) ∧
 (true = false → a = (↑(List.length (decodeL x.fst)) : Int))) ∧
 (decide (a_1 < ByteArray.size x.fst) = false →
 (false = true →
 ((IntKind.wrap IntKind.i64 (a + (1 : Int)) = IntKind.wrap IntKind.i64 (a + (1 : Int)) ∧ True) ∧
 True ∧ x.fst = x.fst ∧ a_1 = a_1) ∧
 Z (IntKind.wrap IntKind.i64 (a + (1 : Int)), a_1, ()) ∧
 μ (IntKind.wrap IntKind.i64 (a + (1 : Int)), a_1, ()) < μ (a, a_1, ())) ∧
 (false = false → a = (↑(List.length (decodeL x.fst)) : Int)))
theorem vcEq19 : fnVC E19 Tryd.f19 (bodyOf Tryd.f19) cCount = vc19 := by kernel_rfl
/- fn 20 -/
def hs20 : List (Nat × Nat × Hint) := []
def nm20 : List Nat := []
noncomputable def E20 : Env := env tab [(18, cRDecode), (13, cREncode)] [] gl hs20 nm20
def vc20 : Prop :=
 ∀ (x : ByteArray × Unit),
 ByteArray.size x.fst ≤ (100000000 : Nat) →
 ByteArray.size x.fst ≤ (1000000000 : Nat) ∧
 List.length (decodeL x.fst) ≤ (1000000000 : Nat) ∧
 (ByteArray.toList (encode (decodeL x.fst)) == ByteArray.toList x.fst) = good x.fst
theorem vcEq20 : fnVC E20 Tryd.f20 (bodyOf Tryd.f20) cRGood = vc20 := by kernel_rfl
/- fn 21 -/
def hs21 : List (Nat × Nat × Hint) := [(0, 5, ⟨[.slot 6 t21, .pos 20], [0, 1, 20], [20], []⟩)]
def nm21 : List Nat := []
noncomputable def E21 : Env := env tab [] [] gl hs21 nm21
def vc21 : Prop :=
 ∀ (x : ByteArray × Int × Unit),
 ByteArray.size x.fst ≤ maxLen →
 (decide (x.snd.fst < (0 : Int)) = true → ((0 : Int), (0 : Int), ()) = uStep x.fst x.snd.fst) ∧
 (decide (x.snd.fst < (0 : Int)) = false →
 (decide (x.snd.fst ≥ (↑(ByteArray.size x.fst) : Int)) = true →
 ((0 : Int), (0 : Int), ()) = uStep x.fst x.snd.fst) ∧
 (decide (x.snd.fst ≥ (↑(ByteArray.size x.fst) : Int)) = false →
 ((0 : Int) ≤ x.snd.fst ∧ x.snd.fst ≤ (↑(ByteArray.size x.fst) : Int)) ∧
 (((0 : Int) = (0 : Int) ∧ x.fst = x.fst ∧ x.snd.fst = x.snd.fst ∧ True) ∧
 True ∧
 ByteArray.extract x.fst (Int.toNat x.snd.fst) (ByteArray.size x.fst) =
 ByteArray.extract x.fst (Int.toNat x.snd.fst) (ByteArray.size x.fst) ∧
 (0 : Nat) = (0 : Nat)) ∧
 ∃ (Z : Int × Nat × Unit → Prop),
 ∃ (μ : Int × Nat × Unit → Nat),
 Z ((0 : Int), (0 : Nat), ()) ∧
 ∀ (a : Int) (a_1 : Nat),
 Z (a, a_1, ()) →
 (decide
 (a_1 <
 ByteArray.size
 (ByteArray.extract x.fst (Int.toNat x.snd.fst) (ByteArray.size x.fst))) =
 true →
 (true = true →
 (decide ((↑a_1 : Int) > (0 : Int)) = true →
 (a, (↑a_1 : Int), ()) = uStep x.fst x.snd.fst) ∧
 (decide ((↑a_1 : Int) > (0 : Int)) = false →
 (((↑(Utf8.decode
 (ByteArray.extract x.fst (Int.toNat x.snd.fst)
 (ByteArray.size x.fst))
 a_1).fst :
 Int) =
 (↑(Utf8.decode
 (ByteArray.extract x.fst (Int.toNat x.snd.fst)
 (ByteArray.size x.fst))
 a_1).fst :
 Int) ∧
 x.fst = x.fst ∧ x.snd.fst = x.snd.fst ∧ True) ∧
 True ∧
 ByteArray.extract x.fst (Int.toNat x.snd.fst) (ByteArray.size x.fst) =
 ByteArray.extract x.fst (Int.toNat x.snd.fst) (ByteArray.size x.fst) ∧
 a_1 +
 (Utf8.decode
 (ByteArray.extract x.fst (Int.toNat x.snd.fst)
 (ByteArray.size x.fst))
 a_1).snd =
 a_1 +
 (Utf8.decode
 (ByteArray.extract x.fst (Int.toNat x.snd.fst)
 (ByteArray.size x.fst))
 a_1).snd) ∧
 Z
 ((↑(Utf8.decode
 (ByteArray.extract x.fst (Int.toNat x.snd.fst)
 (ByteArray.size x.fst))
 a_1).fst :
 Int),
 a_1 +
 (Utf8.decode
 (ByteArray.extract x.fst (Int.toNat x.snd.fst)
 (ByteArray.size x.fst))
 a_1).snd,
 ()) ∧
 μ
 ((↑(Utf8.decode
 (ByteArray.extract x.fst (Int.toNat x.snd.fst)
 (ByteArray.size x.fst))
 a_1).fst :
 Int),
 a_1 +
 (Utf8.decode
 (ByteArray.extract x.fst (Int.toNat x.snd.fst)
 (ByteArray.size x.fst))
 a_1).snd,
 ()) <
 μ (a, a_1, ()))) ∧
 (true = false →
 (a, IntKind.wrap IntKind.i64 ((↑(ByteArray.size x.fst) : Int) - x.snd.fst), ()) =
 uStep x.fst x.snd.fst)) ∧
 (decide
 (a_1 <
 ByteArray.size
 (ByteArray.extract x.fst (Int.toNat x.snd.fst) (ByteArray.size x.fst))) =
 false →
 (false = true → False) ∧
 (false = false →
 (a, IntKind.wrap IntKind.i64 ((↑(ByteArray.size x.fst) : Int) - x.snd.fst), ()) =
 uStep x.fst x.snd.fst))))
theorem vcEq21 : fnVC E21 Tryd.f21 (bodyOf Tryd.f21) cStep = vc21 := by kernel_rfl
/- fn 22 -/
def hs22 : List (Nat × Nat × Hint) := [(0, 4, ⟨[.slot 5 t3, .cell 4 0 t21, .cell 4 1 t3], [0, 1, 4], [4], []⟩)]
def nm22 : List Nat := []
noncomputable def E22 : Env := env tab [(26, cNumber), (24, cUSize), (25, cOne)] [] gl hs22 nm22
def vc22 : Prop :=
 ∀ (x : ByteArray × Int × Unit),
 ByteArray.size x.fst ≤ maxLen →
 (decide (x.snd.fst < (0 : Int)) = true → ((0 : Int), (0 : Int), ()) = uStep x.fst x.snd.fst) ∧
 (decide (x.snd.fst < (0 : Int)) = false →
 (decide (x.snd.fst ≥ (↑(ByteArray.size x.fst) : Int)) = true →
 ((0 : Int), (0 : Int), ()) = uStep x.fst x.snd.fst) ∧
 (decide (x.snd.fst ≥ (↑(ByteArray.size x.fst) : Int)) = false →
 (((1 : Int) = (1 : Int) ∧ x.fst = x.fst ∧ x.snd.fst = x.snd.fst ∧ True) ∧
 (0 : Int) = (0 : Int) ∧ (0 : Int) = (0 : Int)) ∧
 ∃ (Z : Int × Int × Int × Unit → Prop),
 ∃ (μ : Int × Int × Int × Unit → Nat),
 Z ((1 : Int), (0 : Int), (0 : Int), ()) ∧
 ∀ (a a_1 a_2 : Int),
 Z (a, a_1, a_2, ()) →
 (decide (a ≤ (4 : Int)) = true →
 (decide (a ≤ IntKind.wrap IntKind.i64 ((↑(ByteArray.size x.fst) : Int) - x.snd.fst)) =
 true →
 ((0 : Int) ≤ x.snd.fst ∧
 x.snd.fst ≤ IntKind.wrap IntKind.i64 (x.snd.fst + a) ∧
 IntKind.wrap IntKind.i64 (x.snd.fst + a) ≤ (↑(ByteArray.size x.fst) : Int)) ∧
 ((1 : Nat) ≤
 ByteArray.size
 (ByteArray.extract x.fst (Int.toNat x.snd.fst)
 (Int.toNat (IntKind.wrap IntKind.i64 (x.snd.fst + a)))) ∧
 ByteArray.size
 (ByteArray.extract x.fst (Int.toNat x.snd.fst)
 (Int.toNat (IntKind.wrap IntKind.i64 (x.snd.fst + a)))) ≤
 (4 : Nat)) ∧
 True ∧
 ((uSize
 (uNum
 (strBytes
 (ByteArray.extract x.fst (Int.toNat x.snd.fst)
 (Int.toNat (IntKind.wrap IntKind.i64 (x.snd.fst + a)))))) ==
 a) =
 true →
 ((0 : Int) ≤
 uNum
 (strBytes
 (ByteArray.extract x.fst (Int.toNat x.snd.fst)
 (Int.toNat (IntKind.wrap IntKind.i64 (x.snd.fst + a))))) ∧
 uNum
 (strBytes
 (ByteArray.extract x.fst (Int.toNat x.snd.fst)
 (Int.toNat (IntKind.wrap IntKind.i64 (x.snd.fst + a))))) ≤
 (1114111 : Int) ∧
 uSize
 (uNum
 (strBytes
 (ByteArray.extract x.fst (Int.toNat x.snd.fst)
 (Int.toNat (IntKind.wrap IntKind.i64 (x.snd.fst + a)))))) =
 a) ∧
 ((ByteArray.toList
 (bytesOf
 (uBytes
 (uNum
 (strBytes
 (ByteArray.extract x.fst (Int.toNat x.snd.fst)
 (Int.toNat
 (IntKind.wrap IntKind.i64 (x.snd.fst + a))))))
 a)) ==
 ByteArray.toList
 (ByteArray.extract x.fst (Int.toNat x.snd.fst)
 (Int.toNat (IntKind.wrap IntKind.i64 (x.snd.fst + a))))) =
 true →
 (uNum
 (strBytes
 (ByteArray.extract x.fst (Int.toNat x.snd.fst)
 (Int.toNat (IntKind.wrap IntKind.i64 (x.snd.fst + a))))),
 a, ()) =
 uStep x.fst x.snd.fst) ∧
 ((ByteArray.toList
 (bytesOf
 (uBytes
 (uNum
 (strBytes
 (ByteArray.extract x.fst (Int.toNat x.snd.fst)
 (Int.toNat
 (IntKind.wrap IntKind.i64 (x.snd.fst + a))))))
 a)) ==
 ByteArray.toList
 (ByteArray.extract x.fst (Int.toNat x.snd.fst)
 (Int.toNat (IntKind.wrap IntKind.i64 (x.snd.fst + a))))) =
 false →
 ((IntKind.wrap IntKind.i64 (a + (1 : Int)) =
 IntKind.wrap IntKind.i64 (a + (1 : Int)) ∧
 x.fst = x.fst ∧ x.snd.fst = x.snd.fst ∧ True) ∧
 a_1 = a_1 ∧ a_2 = a_2) ∧
 Z (IntKind.wrap IntKind.i64 (a + (1 : Int)), a_1, a_2, ()) ∧
 μ (IntKind.wrap IntKind.i64 (a + (1 : Int)), a_1, a_2, ()) <
 μ (a, a_1, a_2, ()))) ∧
 ((uSize
 (uNum
 (strBytes
 (ByteArray.extract x.fst (Int.toNat x.snd.fst)
 (Int.toNat (IntKind.wrap IntKind.i64 (x.snd.fst + a)))))) ==
 a) =
 false →
 ((IntKind.wrap IntKind.i64 (a + (1 : Int)) =
 IntKind.wrap IntKind.i64 (a + (1 : Int)) ∧
 x.fst = x.fst ∧ x.snd.fst = x.snd.fst ∧ True) ∧
 a_1 = a_1 ∧ a_2 = a_2) ∧
 Z (IntKind.wrap IntKind.i64 (a + (1 : Int)), a_1, a_2, ()) ∧
 μ (IntKind.wrap IntKind.i64 (a + (1 : Int)), a_1, a_2, ()) <
 μ (a, a_1, a_2, ()))) ∧
 (decide (a ≤ IntKind.wrap IntKind.i64 ((↑(ByteArray.size x.fst) : Int) - x.snd.fst)) =
 false →
 ((65533 : Int), (1 : Int), ()) = uStep x.fst x.snd.fst)) ∧
 (decide (a ≤ (4 : Int)) = false → ((65533 : Int), (1 : Int), ()) = uStep x.fst x.snd.fst)))
theorem vcEq22 : fnVC E22 Tryd.f22 (bodyOf Tryd.f22) cRStep = vc22 := by kernel_rfl
/- fn 23 -/
def hs23 : List (Nat × Nat × Hint) := []
def nm23 : List Nat := []
noncomputable def E23 : Env := env tab [] [] gl hs23 nm23
def vc23 : Prop :=
 ∀ (x : Int × Unit),
 True →
 (decide (x.fst ≥ (0 : Int)) = true →
 ((0 : Int) ≤ (3 : Int) ∧ (3 : Int) < (↑(4 : Nat) : Int)) ∧
 (decide (x.fst ≤ (1114111 : Int)) = true →
 (decide (x.fst < (55296 : Int)) = true → true = right x.fst) ∧
 (decide (x.fst < (55296 : Int)) = false → decide (x.fst > (57343 : Int)) = right x.fst)) ∧
 (decide (x.fst ≤ (1114111 : Int)) = false → false = right x.fst)) ∧
 (decide (x.fst ≥ (0 : Int)) = false → false = right x.fst)
theorem vcEq23 : fnVC E23 Tryd.f23 (bodyOf Tryd.f23) cRight = vc23 := by kernel_rfl
/- fn 24 -/
def hs24 : List (Nat × Nat × Hint) := []
def nm24 : List Nat := []
noncomputable def E24 : Env := env tab [] [] gl hs24 nm24
def vc24 : Prop :=
 ∀ (x : Int × Unit),
 True →
 (decide (x.fst < (0 : Int)) = true → (0 : Int) = uSize x.fst) ∧
 (decide (x.fst < (0 : Int)) = false →
 (decide (x.fst > (1114111 : Int)) = true → (0 : Int) = uSize x.fst) ∧
 (decide (x.fst > (1114111 : Int)) = false →
 (decide (x.fst ≥ (55296 : Int)) = true →
 (decide (x.fst ≤ (57343 : Int)) = true → (0 : Int) = uSize x.fst) ∧
 (decide (x.fst ≤ (57343 : Int)) = false →
 (decide (x.fst < (128 : Int)) = true → (1 : Int) = uSize x.fst) ∧
 (decide (x.fst < (128 : Int)) = false →
 (decide (x.fst < (2048 : Int)) = true → (2 : Int) = uSize x.fst) ∧
 (decide (x.fst < (2048 : Int)) = false →
 (decide (x.fst < (65536 : Int)) = true → (3 : Int) = uSize x.fst) ∧
 (decide (x.fst < (65536 : Int)) = false → (4 : Int) = uSize x.fst))))) ∧
 (decide (x.fst ≥ (55296 : Int)) = false →
 (decide (x.fst < (128 : Int)) = true → (1 : Int) = uSize x.fst) ∧
 (decide (x.fst < (128 : Int)) = false →
 (decide (x.fst < (2048 : Int)) = true → (2 : Int) = uSize x.fst) ∧
 (decide (x.fst < (2048 : Int)) = false →
 (decide (x.fst < (65536 : Int)) = true → (3 : Int) = uSize x.fst) ∧
 (decide (x.fst < (65536 : Int)) = false → (4 : Int) = uSize x.fst))))))
theorem vcEq24 : fnVC E24 Tryd.f24 (bodyOf Tryd.f24) cUSize = vc24 := by kernel_rfl
/- fn 25 -/
def hs25 : List (Nat × Nat × Hint) := []
def nm25 : List Nat := []
noncomputable def E25 : Env := env tab [] [] gl hs25 nm25
def vc25 : Prop :=
 ∀ (x : Int × Int × Unit),
 (0 : Int) ≤ x.fst ∧ x.fst ≤ (1114111 : Int) ∧ uSize x.fst = x.snd.fst →
 ((x.snd.fst == (1 : Int)) = true → bytesOf [IntKind.wrap IntKind.u8 x.fst] = bytesOf (uBytes x.fst x.snd.fst)) ∧
 ((x.snd.fst == (1 : Int)) = false →
 ((x.snd.fst == (2 : Int)) = true →
 (64 : Int) ≠ (0 : Int) ∧
 (64 : Int) ≠ (0 : Int) ∧
 bytesOf
 [IntKind.wrap IntKind.u8
 (IntKind.wrap IntKind.i32 ((192 : Int) + IntKind.wrap IntKind.i32 (Int.tdiv x.fst (64 : Int)))),
 IntKind.wrap IntKind.u8 (IntKind.wrap IntKind.i32 ((128 : Int) + Int.tmod x.fst (64 : Int)))] =
 bytesOf (uBytes x.fst x.snd.fst)) ∧
 ((x.snd.fst == (2 : Int)) = false →
 ((x.snd.fst == (3 : Int)) = true →
 (4096 : Int) ≠ (0 : Int) ∧
 (64 : Int) ≠ (0 : Int) ∧
 (64 : Int) ≠ (0 : Int) ∧
 (64 : Int) ≠ (0 : Int) ∧
 bytesOf
 [IntKind.wrap IntKind.u8
 (IntKind.wrap IntKind.i32
 ((224 : Int) + IntKind.wrap IntKind.i32 (Int.tdiv x.fst (4096 : Int)))),
 IntKind.wrap IntKind.u8
 (IntKind.wrap IntKind.i32
 ((128 : Int) +
 Int.tmod (IntKind.wrap IntKind.i32 (Int.tdiv x.fst (64 : Int))) (64 : Int))),
 IntKind.wrap IntKind.u8
 (IntKind.wrap IntKind.i32 ((128 : Int) + Int.tmod x.fst (64 : Int)))] =
 bytesOf (uBytes x.fst x.snd.fst)) ∧
 ((x.snd.fst == (3 : Int)) = false →
 (262144 : Int) ≠ (0 : Int) ∧
 (4096 : Int) ≠ (0 : Int) ∧
 (64 : Int) ≠ (0 : Int) ∧
 (64 : Int) ≠ (0 : Int) ∧
 (64 : Int) ≠ (0 : Int) ∧
 (64 : Int) ≠ (0 : Int) ∧
 bytesOf
 [IntKind.wrap IntKind.u8
 (IntKind.wrap IntKind.i32
 ((240 : Int) + IntKind.wrap IntKind.i32 (Int.tdiv x.fst (262144 : Int)))),
 IntKind.wrap IntKind.u8
 (IntKind.wrap IntKind.i32
 ((128 : Int) +
 Int.tmod (IntKind.wrap IntKind.i32 (Int.tdiv x.fst (4096 : Int))) (64 : Int))),
 IntKind.wrap IntKind.u8
 (IntKind.wrap IntKind.i32
 ((128 : Int) +
 Int.tmod (IntKind.wrap IntKind.i32 (Int.tdiv x.fst (64 : Int))) (64 : Int))),
 IntKind.wrap IntKind.u8
 (IntKind.wrap IntKind.i32 ((128 : Int) + Int.tmod x.fst (64 : Int)))] =
 bytesOf (uBytes x.fst x.snd.fst))))
theorem vcEq25 : fnVC E25 Tryd.f25 (bodyOf Tryd.f25) cOne = vc25 := by kernel_rfl
/- fn 26 -/
def hs26 : List (Nat × Nat × Hint) := [(0, 11, ⟨[.slot 3 t21, .slot 4 t3], [0], [], []⟩)]
def nm26 : List Nat := []
noncomputable def E26 : Env := env tab [] [] gl hs26 nm26
def vc26 : Prop :=
 ∀ (x : ByteArray × Unit),
 (1 : Nat) ≤ ByteArray.size x.fst ∧ ByteArray.size x.fst ≤ (4 : Nat) →
 ((0 : Int) ≤ (0 : Int) ∧ (0 : Int) < (↑(ByteArray.size x.fst) : Int)) ∧
 (((↑(ByteArray.size x.fst) : Int) == (1 : Int)) = true →
 IntKind.wrap IntKind.i32 (↑(UInt8.toNat (Option.getD x.fst.data[Int.toNat (0 : Int)]? (0 : UInt8))) : Int) =
 uNum (strBytes x.fst)) ∧
 (((↑(ByteArray.size x.fst) : Int) == (1 : Int)) = false →
 (((↑(ByteArray.size x.fst) : Int) == (2 : Int)) = true →
 ((1 : Int) = (1 : Int) ∧
 IntKind.wrap IntKind.i32
 (IntKind.wrap IntKind.i32
 (↑(UInt8.toNat (Option.getD x.fst.data[Int.toNat (0 : Int)]? (0 : UInt8))) : Int) -
 (192 : Int)) =
 IntKind.wrap IntKind.i32
 (IntKind.wrap IntKind.i32
 (↑(UInt8.toNat (Option.getD x.fst.data[Int.toNat (0 : Int)]? (0 : UInt8))) : Int) -
 (192 : Int)) ∧
 x.fst = x.fst) ∧
 ∃ (Z : Int × Int × Unit → Prop),
 ∃ (μ : Int × Int × Unit → Nat),
 Z
 (IntKind.wrap IntKind.i32
 (IntKind.wrap IntKind.i32
 (↑(UInt8.toNat (Option.getD x.fst.data[Int.toNat (0 : Int)]? (0 : UInt8))) : Int) -
 (192 : Int)),
 (1 : Int), ()) ∧
 ∀ (a a_1 : Int),
 Z (a, a_1, ()) →
 (decide (a_1 < (↑(ByteArray.size x.fst) : Int)) = true →
 ((0 : Int) ≤ a_1 ∧ a_1 < (↑(ByteArray.size x.fst) : Int)) ∧
 (IntKind.wrap IntKind.i64 (a_1 + (1 : Int)) =
 IntKind.wrap IntKind.i64 (a_1 + (1 : Int)) ∧
 IntKind.wrap IntKind.i32
 (IntKind.wrap IntKind.i32
 (IntKind.wrap IntKind.i32 ((64 : Int) * a) +
 IntKind.wrap IntKind.i32
 (↑(UInt8.toNat (Option.getD x.fst.data[Int.toNat a_1]? (0 : UInt8))) :
 Int)) -
 (128 : Int)) =
 IntKind.wrap IntKind.i32
 (IntKind.wrap IntKind.i32
 (IntKind.wrap IntKind.i32 ((64 : Int) * a) +
 IntKind.wrap IntKind.i32
 (↑(UInt8.toNat (Option.getD x.fst.data[Int.toNat a_1]? (0 : UInt8))) :
 Int)) -
 (128 : Int)) ∧
 x.fst = x.fst) ∧
 Z
 (IntKind.wrap IntKind.i32
 (IntKind.wrap IntKind.i32
 (IntKind.wrap IntKind.i32 ((64 : Int) * a) +
 IntKind.wrap IntKind.i32
 (↑(UInt8.toNat (Option.getD x.fst.data[Int.toNat a_1]? (0 : UInt8))) :
 Int)) -
 (128 : Int)),
 IntKind.wrap IntKind.i64 (a_1 + (1 : Int)), ()) ∧
 μ
 (IntKind.wrap IntKind.i32
 (IntKind.wrap IntKind.i32
 (IntKind.wrap IntKind.i32 ((64 : Int) * a) +
 IntKind.wrap IntKind.i32
 (↑(UInt8.toNat
 (Option.getD x.fst.data[Int.toNat a_1]? (0 : UInt8))) :
 Int)) -
 (128 : Int)),
 IntKind.wrap IntKind.i64 (a_1 + (1 : Int)), ()) <
 μ (a, a_1, ())) ∧
 (decide (a_1 < (↑(ByteArray.size x.fst) : Int)) = false → a = uNum (strBytes x.fst))) ∧
 (((↑(ByteArray.size x.fst) : Int) == (2 : Int)) = false →
 (((↑(ByteArray.size x.fst) : Int) == (3 : Int)) = true →
 ((1 : Int) = (1 : Int) ∧
 IntKind.wrap IntKind.i32
 (IntKind.wrap IntKind.i32
 (↑(UInt8.toNat (Option.getD x.fst.data[Int.toNat (0 : Int)]? (0 : UInt8))) : Int) -
 (224 : Int)) =
 IntKind.wrap IntKind.i32
 (IntKind.wrap IntKind.i32
 (↑(UInt8.toNat (Option.getD x.fst.data[Int.toNat (0 : Int)]? (0 : UInt8))) : Int) -
 (224 : Int)) ∧
 x.fst = x.fst) ∧
 ∃ (Z : Int × Int × Unit → Prop),
 ∃ (μ : Int × Int × Unit → Nat),
 Z
 (IntKind.wrap IntKind.i32
 (IntKind.wrap IntKind.i32
 (↑(UInt8.toNat (Option.getD x.fst.data[Int.toNat (0 : Int)]? (0 : UInt8))) : Int) -
 (224 : Int)),
 (1 : Int), ()) ∧
 ∀ (a a_1 : Int),
 Z (a, a_1, ()) →
 (decide (a_1 < (↑(ByteArray.size x.fst) : Int)) = true →
 ((0 : Int) ≤ a_1 ∧ a_1 < (↑(ByteArray.size x.fst) : Int)) ∧
 (IntKind.wrap IntKind.i64 (a_1 + (1 : Int)) =
 IntKind.wrap IntKind.i64 (a_1 + (1 : Int)) ∧
 IntKind.wrap IntKind.i32
 (IntKind.wrap IntKind.i32
 (IntKind.wrap IntKind.i32 ((64 : Int) * a) +
 IntKind.wrap IntKind.i32
 (↑(UInt8.toNat
 (Option.getD x.fst.data[Int.toNat a_1]? (0 : UInt8))) :
 Int)) -
 (128 : Int)) =
 IntKind.wrap IntKind.i32
 (IntKind.wrap IntKind.i32
 (IntKind.wrap IntKind.i32 ((64 : Int) * a) +
 IntKind.wrap IntKind.i32
 (↑(UInt8.toNat
 (Option.getD x.fst.data[Int.toNat a_1]? (0 : UInt8))) :
 Int)) -
 (128 : Int)) ∧
 x.fst = x.fst) ∧
 Z
 (IntKind.wrap IntKind.i32
 (IntKind.wrap IntKind.i32
 (IntKind.wrap IntKind.i32 ((64 : Int) * a) +
 IntKind.wrap IntKind.i32
 (↑(UInt8.toNat
 (Option.getD x.fst.data[Int.toNat a_1]? (0 : UInt8))) :
 Int)) -
 (128 : Int)),
 IntKind.wrap IntKind.i64 (a_1 + (1 : Int)), ()) ∧
 μ
 (IntKind.wrap IntKind.i32
 (IntKind.wrap IntKind.i32
 (IntKind.wrap IntKind.i32 ((64 : Int) * a) +
 IntKind.wrap IntKind.i32
 (↑(UInt8.toNat
 (Option.getD x.fst.data[Int.toNat a_1]? (0 : UInt8))) :
 Int)) -
 (128 : Int)),
 IntKind.wrap IntKind.i64 (a_1 + (1 : Int)), ()) <
 μ (a, a_1, ())) ∧
 (decide (a_1 < (↑(ByteArray.size x.fst) : Int)) = false → a = uNum (strBytes x.fst))) ∧
 (((↑(ByteArray.size x.fst) : Int) == (3 : Int)) = false →
 ((1 : Int) = (1 : Int) ∧
 IntKind.wrap IntKind.i32
 (IntKind.wrap IntKind.i32
 (↑(UInt8.toNat (Option.getD x.fst.data[Int.toNat (0 : Int)]? (0 : UInt8))) : Int) -
 (240 : Int)) =
 IntKind.wrap IntKind.i32
 (IntKind.wrap IntKind.i32
 (↑(UInt8.toNat (Option.getD x.fst.data[Int.toNat (0 : Int)]? (0 : UInt8))) : Int) -
 (240 : Int)) ∧
 x.fst = x.fst) ∧
 ∃ (Z : Int × Int × Unit → Prop),
 ∃ (μ : Int × Int × Unit → Nat),
 Z
 (IntKind.wrap IntKind.i32
 (IntKind.wrap IntKind.i32
 (↑(UInt8.toNat (Option.getD x.fst.data[Int.toNat (0 : Int)]? (0 : UInt8))) : Int) -
 (240 : Int)),
 (1 : Int), ()) ∧
 ∀ (a a_1 : Int),
 Z (a, a_1, ()) →
 (decide (a_1 < (↑(ByteArray.size x.fst) : Int)) = true →
 ((0 : Int) ≤ a_1 ∧ a_1 < (↑(ByteArray.size x.fst) : Int)) ∧
 (IntKind.wrap IntKind.i64 (a_1 + (1 : Int)) =
 IntKind.wrap IntKind.i64 (a_1 + (1 : Int)) ∧
 IntKind.wrap IntKind.i32
 (IntKind.wrap IntKind.i32
 (IntKind.wrap IntKind.i32 ((64 : Int) * a) +
 IntKind.wrap IntKind.i32
 (↑(UInt8.toNat
 (Option.getD x.fst.data[Int.toNat a_1]? (0 : UInt8))) :
 Int)) -
 (128 : Int)) =
 IntKind.wrap IntKind.i32
 (IntKind.wrap IntKind.i32
 (IntKind.wrap IntKind.i32 ((64 : Int) * a) +
 IntKind.wrap IntKind.i32
 (↑(UInt8.toNat
 (Option.getD x.fst.data[Int.toNat a_1]? (0 : UInt8))) :
 Int)) -
 (128 : Int)) ∧
 x.fst = x.fst) ∧
 Z
 (IntKind.wrap IntKind.i32
 (IntKind.wrap IntKind.i32
 (IntKind.wrap IntKind.i32 ((64 : Int) * a) +
 IntKind.wrap IntKind.i32
 (↑(UInt8.toNat
 (Option.getD x.fst.data[Int.toNat a_1]? (0 : UInt8))) :
 Int)) -
 (128 : Int)),
 IntKind.wrap IntKind.i64 (a_1 + (1 : Int)), ()) ∧
 μ
 (IntKind.wrap IntKind.i32
 (IntKind.wrap IntKind.i32
 (IntKind.wrap IntKind.i32 ((64 : Int) * a) +
 IntKind.wrap IntKind.i32
 (↑(UInt8.toNat
 (Option.getD x.fst.data[Int.toNat a_1]? (0 : UInt8))) :
 Int)) -
 (128 : Int)),
 IntKind.wrap IntKind.i64 (a_1 + (1 : Int)), ()) <
 μ (a, a_1, ())) ∧
 (decide (a_1 < (↑(ByteArray.size x.fst) : Int)) = false → a = uNum (strBytes x.fst)))))
theorem vcEq26 : fnVC E26 Tryd.f26 (bodyOf Tryd.f26) cNumber = vc26 := by kernel_rfl
end Go.Fr.C01
