/-
  Texts on which the proofs of the seat's statements stand: a symbolic walk, its soundness, the functions' conditions and their proofs (4). Conditions: none.
-/
import Derived.Test.YtckeadbpimhimaaDoorG3
import Derived.Sort.Row
import Derived.Sort.Grow
import Derived.Shelf.SlSortCmp.Insertion
namespace Go.Fr.D16
open Go Go.Fr Go.Proofs
abbrev D3 := Int × Int × Int × Unit
abbrev Itm := Int × Int × D3 × Int × ByteArray × Unit
abbrev Sm := Int × D3 × Int × Int × Unit
abbrev Lf := List Itm × Sm × Unit
abbrev Nx := Int × Sm × Unit
abbrev Nd := NT Lf Nx
def withinN (n : Int) : Bool := decide (0 ≤ n) && decide (n ≤ 1099511627776)
def checkI (x : Itm) : Int := if (withinN x.2.2.2.1 && withinN x.2.2.1.1 && withinN x.2.2.1.2.1 && withinN x.2.2.1.2.2.1) = true then 0 else 1
def ofI (x : Itm) : Sm := (1, x.2.2.1, x.2.2.2.1, 0, ())
def zS : Sm := (0, (0, 0, 0, ()), 0, 0, ())
def addD (a b : D3) : D3 := (w64 (a.1 + b.1), w64 (a.2.1 + b.2.1), w64 (a.2.2.1 + b.2.2.1), ())
def addS (a b : Sm) : Sm :=
  if b.1 > 0 ∧ (a.1 = 0 ∨ b.2.2.1 > a.2.2.1) then (w64 (a.1 + b.1), addD a.2.1 b.2.1, b.2.2.1, w64 (a.1 + b.2.2.2.1), ())
  else (w64 (a.1 + b.1), addD a.2.1 b.2.1, a.2.2.1, a.2.2.2.1, ())
def allS (l : List Itm) : Sm := l.foldl (fun s x => addS s (ofI x)) zS
def sumOf : Nd → Sm
  | .nil => zS
  | .leaf a => a.2.1
  | .inner _ b => b.2.1
def heightOf : Nd → Int
  | .nil => 0
  | .leaf _ => 1
  | .inner _ b => b.1
def sums (ks : List Nd) : Sm := ks.foldl (fun s k => addS s (sumOf k)) zS
def mkLf (l : List Itm) : Lf := (l, allS l, ())
def mkLeaf (l : List Itm) : Nd := .leaf (mkLf l)
def mkNx (ks : List Nd) : Nx := (w64 (heightOf (ks.getD 0 .nil) + 1), sums ks, ())
def mkInner (ks : List Nd) : Nd := .inner ks (mkNx ks)
def spread (l : List Itm) : List Nd := if l.length ≤ 8 then [mkLeaf l] else [mkLeaf (l.take (l.length / 2)), mkLeaf (l.drop (l.length / 2))]
def raise (ks : List Nd) : List Nd := if ks.length ≤ 8 then [mkInner ks] else [mkInner (ks.take (ks.length / 2)), mkInner (ks.drop (ks.length / 2))]
def kidsOf : Nd → List Nd
  | .inner ks _ => ks
  | _ => []
def itemsOf : Nd → List Itm
  | .leaf a => a.1
  | _ => []
def meldF : Nat → Nd → Nd → List Nd
  | 0, _, _ => []
  | n + 1, a, b =>
    if heightOf a > heightOf b then raise ((kidsOf a).take ((kidsOf a).length - 1) ++ meldF n ((kidsOf a).getD ((kidsOf a).length - 1) .nil) b)
    else if heightOf a < heightOf b then raise (meldF n a ((kidsOf b).getD 0 .nil) ++ (kidsOf b).drop 1)
    else if (NT.asLeaf a).isSome = true then spread (itemsOf a ++ itemsOf b) else raise (kidsOf a ++ kidsOf b)
def meld (a b : Nd) : List Nd := meldF ((heightOf a).toNat + (heightOf b).toNat) a b
def Wf : Nat → Bool → Nd → Prop
  | 0, _, _ => False
  | _ + 1, _, .nil => False
  | h + 1, top, .leaf a => h = 0 ∧ (if top = true then 1 else 4) ≤ a.1.length ∧ a.1.length ≤ 8 ∧ a.2.1 = allS a.1
  | h + 1, top, .inner ks b => 1 ≤ h ∧ (if top = true then 2 else 4) ≤ ks.length ∧ ks.length ≤ 8 ∧ b.1 = ((h + 1 : Nat) : Int) ∧ b.2.1 = sums ks ∧ ∀ k ∈ ks, Wf h false k
def WfN (n : Nd) : Prop := n = .nil ∨ ∃ h : Nat, h ≤ 100 ∧ Wf h true n
def join (a b : Nd) : Nd :=
  if NT.isNil a = true then b else if NT.isNil b = true then a else if (meld a b).length = 1 then (meld a b).getD 0 .nil else mkInner (meld a b)
def rowN (ks : List Nd) : Nd := if ks.length = 0 then .nil else if ks.length = 1 then ks.getD 0 .nil else mkInner ks
def itemsF : Nat → Nd → List Itm
  | 0, _ => []
  | n + 1, x => match x with
    | .nil => []
    | .leaf a => a.1
    | .inner ks _ => ks.flatMap (itemsF n)
def items (n : Nd) : List Itm := itemsF 101 n
abbrev Tre := Option (Nd × Unit)
def topT (t : Tre) : Nd := match t with | none => .nil | some t => t.1
def build (l : List Itm) : Nat → Nd
  | 0 => .nil
  | k + 1 => join (build l k) (mkLeaf ((l.drop (8 * k)).take 8))
def buildT (l : List Itm) : Nd := build l ((l.length + 7) / 8)
def newT (l : List Itm) : Tre × Int × Unit := if l.length > 30000 then (none, 5, ()) else if (l.all fun x => decide (checkI x = 0)) = true then (some (buildT l, ()), 0, ()) else (none, 1, ())
def cWithinN : Contract := { arg := .pair t3 .unit, res := .bool, one := true, pre := fun _ => True, fn := fun x => withinN x.1 }
def cCheck : Contract := { arg := .pair t47 .unit, res := t23, one := true, pre := fun _ => True, fn := fun x => checkI x.1 }
def cOfI : Contract := { arg := .pair t47 .unit, res := t39, one := true, pre := fun _ => True, fn := fun x => ofI x.1 }
def cAddS : Contract := { arg := .pair t39 (.pair t39 .unit), res := t39, one := true, pre := fun _ => True, fn := fun x => addS x.1 x.2.1 }
def cAllS : Contract := { arg := .pair t61 .unit, res := t39, one := true, pre := fun x => x.1.length ≤ maxLen, fn := fun x => allS x.1 }
def cSumOf : Contract := { arg := .pair t75 .unit, res := t39, one := true, pre := fun _ => True, fn := fun x => sumOf x.1 }
def cHeightOf : Contract := { arg := .pair t75 .unit, res := t3, one := true, pre := fun _ => True, fn := fun x => heightOf x.1 }
def cLeafOf : Contract := { arg := .pair t61 .unit, res := t84, one := true, pre := fun x => x.1.length ≤ maxLen, fn := fun x => some (mkLf x.1) }
def cInnerOf : Contract := { arg := .pair t79 .unit, res := t77, one := true, pre := fun x => 1 ≤ x.1.length ∧ x.1.length ≤ maxLen, fn := fun x => some (x.1, mkNx x.1) }
def cRaise : Contract := { arg := .pair t79 .unit, res := t79, one := true, pre := fun x => 1 ≤ x.1.length ∧ x.1.length ≤ 100000, fn := fun x => raise x.1 }
def cPut : Contract := { arg := .pair t79 (.pair t79 .unit), res := t79, one := true, pre := fun x => x.1.length ≤ 100000 ∧ x.2.1.length ≤ 100000, fn := fun x => x.1 ++ x.2.1 }
def cSpread : Contract := { arg := .pair t61 .unit, res := t79, one := true, pre := fun x => x.1.length ≤ 100000, fn := fun x => spread x.1 }
def muMeld (x : Nd × Nd × Unit) : Nat := (heightOf x.1).toNat + (heightOf x.2.1).toNat
def cMeld : Contract := { arg := .pair t75 (.pair t75 .unit), res := t79, one := true, pre := fun x => ∃ h k : Nat, h ≤ 100 ∧ k ≤ 100 ∧ Wf h true x.1 ∧ Wf k true x.2.1, fn := fun x => meld x.1 x.2.1 }
def cJoin : Contract := { arg := .pair t75 (.pair t75 .unit), res := t75, one := true, pre := fun x => WfN x.1 ∧ WfN x.2.1, fn := fun x => join x.1 x.2.1 }
def cRowN : Contract := { arg := .pair t79 .unit, res := t75, one := true, pre := fun x => x.1.length ≤ 100000, fn := fun x => rowN x.1 }
def cTop : Contract := { arg := .pair t43 .unit, res := t75, one := true, pre := fun _ => True, fn := fun x => topT x.1 }
def cSum : Contract := { arg := .pair t43 .unit, res := t39, one := true, pre := fun _ => True, fn := fun x => sumOf (topT x.1) }
def cHeightT : Contract := { arg := .pair t43 .unit, res := t3, one := true, pre := fun _ => True, fn := fun x => heightOf (topT x.1) }
def cTreeNew : Contract := { arg := .pair t61 .unit, res := .pair t43 (.pair t23 .unit), one := false, pre := fun x => x.1.length ≤ 100000, fn := fun x => newT x.1 }
def cItems : Contract := { arg := .pair t43 .unit, res := t61, one := true, pre := fun x => (topT x.1 = .nil ∨ ∃ h : Nat, h ≤ 4 ∧ Wf h true (topT x.1)) ∧ (items (topT x.1)).length ≤ 100000, fn := fun x => items (topT x.1) }
end Go.Fr.D16
namespace Go.Fr.D16
open Go Go.Fr Go.Proofs
set_option maxRecDepth 100000
def hs25 : List (Nat × Nat × Hint) := [(0, 8, ⟨[.slot 30 t3, .cell 27 0 (mapT t3 t107), .rowC 26 1 900000001 t105 105], [0, 6, 7, 28, 29], [27, 26], []⟩)]
def nm25 : List Nat := [2000000025, 3000000047, 4000000018]
noncomputable def E25 : Env := envR tab [(45, cWrong), (46, cClean), (48, cOrder)] [] gl hs25 nm25 [(47, rSort)]
def vc25 : Prop :=
 ∀ (x : Int × List Inl × Unit),
 let y := x.snd.fst;
 let y_1 := x.fst;
 let y_2 := (↑(List.length y) : Int);
 let y_3 := newI y_1 y;
 List.length y ≤ maxLen ∧ shortL y →
 (decide (y_1 < (0 : Int)) = true → (none, (1 : Int), ()) = y_3) ∧
 (decide (y_1 < (0 : Int)) = false →
 (decide (y_1 > (1099511627776 : Int)) = true → (none, (1 : Int), ()) = y_3) ∧
 (decide (y_1 > (1099511627776 : Int)) = false →
 (decide (y_2 > (60 : Int)) = true → (none, (5 : Int), ()) = y_3) ∧
 (decide (y_2 > (60 : Int)) = false →
 (((0 : Int) = (0 : Int) ∧ y_1 = y_1 ∧ True ∧ True ∧ y = y ∧ y_2 = y_2) ∧
 ((([] : List (Int × Unit × Unit)) = [] ∧ True) ∧ y_1 = y_1 ∧ True) ∧ True ∧ True) ∧
 ∃ (Z :
 Int × List (Int × Unit × Unit) × List Inl × Unit → Prop),
 ∃ (μ :
 Int × List (Int × Unit × Unit) × List Inl × Unit → Nat),
 Z ((0 : Int), [], [], ()) ∧
 ∀ (a : Int),
 let y_4 :=  [((List.getD y (Int.toNat a) (Ty.dflt t105)).fst,  (List.getD y (Int.toNat a) (Ty.dflt t105)).snd.fst,  (List.getD y (Int.toNat a) (Ty.dflt t105)).snd.snd.fst,  (List.getD y (Int.toNat a) (Ty.dflt t105)).snd.snd.snd.fst,  clean (List.getD y (Int.toNat a) (Ty.dflt t105)).snd.snd.snd.snd.fst, ())];
 let y_5 := [((List.getD y (Int.toNat a) (Ty.dflt t105)).fst, (), ())];
 let y_6 := IntKind.wrap IntKind.i64 (a + (1 : Int));
 let y_7 := List.getD y (Int.toNat a) (Ty.dflt t105);
 let y_8 := y_7.fst;
 ∀ (a_1 : List (Int × Unit × Unit)),
 let y_9 := a_1 ++ y_5;
 ∀ (a_2 : List Inl),
 let y_10 := (y_6, y_9, a_2 ++ y_4, ());
 let y_11 := (a, a_1, a_2, ());
 let y_12 := a_2 ++ y_4;
 let y_13 := List.length a_2 + List.length y_4;
 let y_14 := y_13 * (48 : Nat);
 Z y_11 →
 (decide (a < y_2) = true →
 ((0 : Int) ≤ a ∧ a < y_2) ∧
 ByteArray.size (txt y_7) ≤ maxLen ∧
 ((wrongI y_1 y_7 != (0 : Int)) = true → (none, wrongI y_1 y_7, ()) = y_3) ∧
 ((wrongI y_1 y_7 != (0 : Int)) = false →
 (Option.isSome (mget t3 t107 y_8 a_1) = true →
 (none, (8 : Int), ()) = y_3) ∧
 (Option.isSome (mget t3 t107 y_8 a_1) = false →
 mget t3 t107 y_8 a_1 = none ∧
 ByteArray.size y_7.snd.snd.snd.snd.fst ≤ (100000000 : Nat) ∧
 (y_14 ≤ (140737488355328 : Nat) ∧
 y_13 ≤ maxLen ∧
 ((y_6 = y_6 ∧ y_1 = y_1 ∧ True ∧ True ∧ y = y ∧ y_2 = y_2) ∧
 ((y_9 = y_9 ∧ True) ∧ y_1 = y_1 ∧ True) ∧
 y_12 = y_12 ∧ True) ∧
 Z y_10 ∧ μ y_10 < μ y_11) ∧
 (y_14 ≤ (140737488355328 : Nat) ∧
 y_13 ≤ maxLen ∧
 ((y_6 = y_6 ∧ y_1 = y_1 ∧ True ∧ True ∧ y = y ∧ y_2 = y_2) ∧
 ((y_9 = y_9 ∧ True) ∧ y_1 = y_1 ∧ True) ∧
 y_12 = y_12 ∧ True) ∧
 Z y_10 ∧ μ y_10 < μ y_11) ∧
 y_14 ≤ (140737488355328 : Nat) ∧
 y_13 ≤ maxLen ∧
 ((y_6 = y_6 ∧ y_1 = y_1 ∧ True ∧ True ∧ y = y ∧ y_2 = y_2) ∧
 ((y_9 = y_9 ∧ True) ∧ y_1 = y_1 ∧ True) ∧
 y_12 = y_12 ∧ True) ∧
 Z y_10 ∧ μ y_10 < μ y_11))) ∧
 (decide (a < y_2) = false →
 List.length a_2 ≤ (100000 : Nat) ∧
 ∀ (ys : List Inl),
 List.Perm ys a_2 ∧ List.Pairwise (fun (a b : Inl) ↦ ¬cmpL b a < (0 : Int)) ys →
 (some (y_1, ys, ()), (0 : Int), ()) = y_3))))
theorem vcEq25 : fnVC E25 Tryd.f25 (bodyOf Tryd.f25) cNew = vc25 := by kernel_rfl
end Go.Fr.D16
namespace Go.Fr
open Go Go.RowKit
section
variable {B : Nat} {w w' : World} {h : PHeap}
theorem row_holds {e : TypeId} {size g n cap : Nat} {cs : List Value} (hown : w.ownsRow B e size (.slice (some ⟨g, 0, none⟩) n cap) n cs) : Sort.Holds id w g 0 cs.toArray := by
  rcases hown.2 with ⟨e0, _⟩ | ⟨g', cap', cur, e0, f1, f2, f3, f4, f5, f6⟩
  · cases e0
  · injection e0 with q1 q2 q3
    injection q1 with q1
    injection q1 with q1
    subst q1 q3
    intro j hj
    have hj' : j < cs.length := by simpa using hj
    have hc : cur.toList[j]? = some cs[j] := by
      have h1 : cs[j]? = some cs[j] := List.getElem?_eq_getElem hj'
      have h3 : (cur.toList.take (n * size))[j]? = some cs[j] := by rw [f6]; exact h1
      rw [List.getElem?_take] at h3
      split at h3
      · exact h3
      · cases h3
    refine ⟨?_, ?_⟩
    · simp only [World.cell?, f2, Nat.zero_add]
      simp only [Array.getElem?_toList] at hc
      simp [hc, hj']
    · simp [World.frozen?, f2]
theorem put_row {e : TypeId} {size g n m cap q : Nat} {cs cs' : List Value} {os : Array Obj} (_hs : 0 < size) (hown : w.ownsRow B e size (.slice (some ⟨g, 0, none⟩) n cap) n cs) (hl : cs'.length = n * size) (hm : m ≤ n)
    (hw : w' = Sort.grow (Sort.putRow id (Sort.ahead w q) g 0 cs'.toArray) os) : w'.ownsRow B e size (.slice (some ⟨g, 0, none⟩) m cap) m (cs'.take (m * size)) ∧ GrownBy w w' (some g) := by
  rcases hown.2 with ⟨e0, _⟩ | ⟨g', cap', cur, e0, f1, f2, f3, f4, f5, f6⟩
  · cases e0
  · injection e0 with q1 q2 q3
    injection q1 with q1
    injection q1 with q1
    subst q1 q3
    have hlt : g < w.heap.size := lt_of_heap f2
    have hms : m * size ≤ n * size := Nat.mul_le_mul_right _ hm
    have hncap : n * size ≤ cap * size := Nat.mul_le_mul_right _ f3
    have hg : w'.heap[g]? = some (.cells (Sort.putCells id 0 cs'.toArray cur) e (0, 0)) := by
      rw [hw, Sort.heap_grow_old _ _ (by simp [Sort.ahead]; exact hlt)]
      simp only [Sort.putRow, Sort.mapBlock, Sort.ahead]
      rw [Array.getElem?_modify]
      simp [f2, Sort.onCells]
    refine ⟨⟨by rw [List.length_take, hl]; omega, .inr ⟨g, cap, _, rfl, f1, hg, by omega, f4, by simp [Sort.putCells, f5], ?_⟩⟩, ?_⟩
    · apply List.ext_getElem?
      intro j
      rw [List.getElem?_take, List.getElem?_take]
      by_cases hj : j < m * size
      · rw [if_pos hj, if_pos hj]
        have h1 : j < cur.size := by omega
        have h2 : j < cs'.length := by omega
        simp only [Sort.putCells, Array.toList_mapIdx, List.getElem?_mapIdx, Array.getElem?_toList]
        rw [Array.getElem?_eq_getElem h1]
        simp [h2]
      · rw [if_neg hj, if_neg hj]
    · rw [hw]
      refine ⟨rfl, rfl, rfl, by simp [Sort.ahead], fun k hk hne => ?_, Nat.le_add_right _ _⟩
      rw [Sort.heap_grow_old _ _ (by simp [Sort.ahead]; exact hk)]
      simp only [Sort.putRow, Sort.mapBlock, Sort.ahead]
      rw [Array.getElem?_modify, if_neg (fun e => hne (by rw [e]))]
theorem grownBy_refl (w : World) (r : Option Nat) : GrownBy w w r := GrownBy.refl w r
end
end Go.Fr
namespace Go.Fr
open Go Go.Proofs Go.Sort
section
variable {α : Type} {cf : α → α → Int}
end
section
variable {α : Type} {f : α → Bool} {d : α}
theorem take_one (d : α) {l : List α} {k : Nat} (h : k < l.length) : l.take (k + 1) = l.take k ++ [l.getD k d] := by
  rw [List.take_succ_eq_append_getElem h]
  simp [List.getD, h]
def DelI (f : α → Bool) (d : α) (xs a : List α) (i j : Nat) : Prop := a.length = xs.length ∧ j ≤ xs.length ∧ i < j ∧ a.take i = (xs.take j).filter f ∧ ∀ q, j ≤ q → a.getD q d = xs.getD q d
theorem filter_one {xs : List α} {j : Nat} (h : j < xs.length) : (xs.take (j + 1)).filter f = (xs.take j).filter f ++ (if f (xs.getD j d) then [xs.getD j d] else []) := by
  rw [take_one d h, List.filter_append]
  congr 1
  by_cases hk : f (xs.getD j d) = true
  · rw [List.filter_cons_of_pos hk, if_pos hk]; rfl
  · rw [List.filter_cons_of_neg hk, if_neg hk]; rfl
theorem DelI.drop {xs a : List α} {i j : Nat} (h : DelI f d xs a i j) (hj : j < xs.length) (hk : f (a.getD j d) = false) : DelI f d xs a i (j + 1) := by
  obtain ⟨h1, h2, h3, h4, h5⟩ := h
  have e := h5 j (Nat.le_refl _)
  rw [e] at hk
  refine ⟨h1, hj, by omega, ?_, fun q hq => h5 q (by omega)⟩
  rw [filter_one (d := d) hj, if_neg (by rw [hk]; decide), List.append_nil]
  exact h4
theorem DelI.last {xs a : List α} {i : Nat} (h : DelI f d xs a i xs.length) (z : α) : (a.take i ++ List.replicate (a.length - i) z).take i = xs.filter f := by
  obtain ⟨h1, h2, h3, h4, h5⟩ := h
  rw [List.take_append_of_le_length (by rw [List.length_take]; omega), List.take_take, Nat.min_self, h4, List.take_length]
end
section
variable {α : Type}
theorem sort_one_way {cf : α → α → Int} (hO : SWO (ltOf cf)) {xs ys : List α} (hT : ∀ x ∈ xs, ∀ y ∈ xs, ltOf cf x y = false → ltOf cf y x = false → x = y) (hp : ys.Perm xs) (hs : ys.Pairwise (fun a b => ¬ cf b a < 0)) : ys = sortBy cf xs := by
  have hs2 : (sortBy cf xs).Pairwise (fun x y => (!(ltOf cf) y x) = true) := by
    refine List.pairwise_mergeSort ?_ ?_ _
    · intro a b c h1 h2
      simp only [Bool.not_eq_true'] at h1 h2 ⊢
      exact hO.ntrans c b a h2 h1
    · intro a b
      cases h : ltOf cf b a with
      | false => simp
      | true =>
        cases h2 : ltOf cf a b with
        | false => simp
        | true =>
          have := hO.trans a b a h2 h
          rw [hO.irrefl] at this
          cases this
  refine List.Perm.eq_of_pairwise (le := fun x y => (!(ltOf cf) y x) = true) ?_ ?_ hs2 (hp.trans (List.mergeSort_perm _ _).symm)
  · intro a b ha hb h1 h2
    simp only [Bool.not_eq_true'] at h1 h2
    have hb' := (List.mergeSort_perm xs _).subset hb
    exact hT a (hp.subset ha) b hb' h2 h1
  · refine hs.imp fun {a b} h => ?_
    simp only [Bool.not_eq_true']
    exact decide_eq_false h
end
end Go.Fr
namespace Go.Fr.D16
open Go Go.Fr Go.Proofs
open Go.Sort
theorem cmpI_lt {a b : Int} : cmpI a b < 0 ↔ a < b := by unfold cmpI; split <;> (try split) <;> omega
theorem cmpI_eq {a b : Int} : cmpI a b = 0 ↔ a = b := by unfold cmpI; split <;> (try split) <;> omega
theorem nz_lt {x : Int} {r : List Int} : firstNZ (x :: r) < 0 ↔ x < 0 ∨ (x = 0 ∧ firstNZ r < 0) := by
  show (if x = 0 then firstNZ r else x) < 0 ↔ _
  split <;> omega
theorem cmpL_lt {a b : Inl} : cmpL a b < 0 ↔ a.2.1 < b.2.1 ∨ (a.2.1 = b.2.1 ∧ (a.2.2.2.1 < b.2.2.2.1 ∨ (a.2.2.2.1 = b.2.2.2.1 ∧ a.1 < b.1))) := by
  unfold cmpL
  rw [nz_lt, nz_lt, nz_lt, cmpI_lt, cmpI_lt, cmpI_lt, cmpI_eq, cmpI_eq, cmpI_eq]
  have : ¬ firstNZ [] < 0 := by decide
  simp only [this, and_false, or_false]
theorem ltL {x y : Inl} : ltOf cmpL x y = decide (x.2.1 < y.2.1 ∨ (x.2.1 = y.2.1 ∧ (x.2.2.2.1 < y.2.2.2.1 ∨ (x.2.2.2.1 = y.2.2.2.1 ∧ x.1 < y.1)))) := by
  unfold ltOf
  exact decide_eq_decide.2 cmpL_lt
theorem swoL : SWO (ltOf cmpL) where
  irrefl x := by rw [ltL]; simp
  trans x y z h1 h2 := by
    rw [ltL] at *
    rw [decide_eq_true_eq] at *
    omega
  ntrans x y z h1 h2 := by
    rw [ltL] at *
    rw [decide_eq_false_iff_not] at *
    omega
theorem alikeL {x y : Inl} (h1 : ltOf cmpL x y = false) (h2 : ltOf cmpL y x = false) : x.1 = y.1 := by
  rw [ltL] at h1 h2
  rw [decide_eq_false_iff_not] at h1 h2
  omega
end Go.Fr.D16
namespace Go.Fr.D16
open Go Go.Fr Go.Proofs
theorem empty_iff (s : ByteArray) : s.toList = (ByteArray.mk #[]).toList ↔ s.size = 0 := by
  constructor
  · intro h
    have := toList_inj h
    rw [this]
    rfl
  · intro h
    have : s = ByteArray.mk #[] := by
      cases s with
      | mk d =>
        have : d.size = 0 := h
        rw [Array.size_eq_zero_iff.1 this]
    rw [this]
theorem wi_1 {n : Int} {x : Inl} (h : x.1 < 1 ∨ x.2.1 < 0 ∨ x.2.1 > n ∨ (x.2.2.1 ≠ 0 ∧ x.2.2.1 ≠ 1)) : (1 : Int) = wrongI n x := by
  unfold wrongI
  rw [if_pos h]
theorem wi_2 {n : Int} {x : Inl} (h : ¬ (x.1 < 1 ∨ x.2.1 < 0 ∨ x.2.1 > n ∨ (x.2.2.1 ≠ 0 ∧ x.2.2.1 ≠ 1))) (h2 : ((decodeL (txt x)).length : Int) > 40) : (2 : Int) = wrongI n x := by
  unfold wrongI
  rw [if_neg h, if_pos h2]
theorem wi_4 {n : Int} {x : Inl} (h : ¬ (x.1 < 1 ∨ x.2.1 < 0 ∨ x.2.1 > n ∨ (x.2.2.1 ≠ 0 ∧ x.2.2.1 ≠ 1))) (h2 : ¬ ((decodeL (txt x)).length : Int) > 40) (h3 : (txt x).size = 0 ∨ hasNL (txt x) = true) : (4 : Int) = wrongI n x := by
  unfold wrongI
  rw [if_neg h, if_neg h2, if_pos h3]
theorem wi_0 {n : Int} {x : Inl} (h : ¬ (x.1 < 1 ∨ x.2.1 < 0 ∨ x.2.1 > n ∨ (x.2.2.1 ≠ 0 ∧ x.2.2.1 ≠ 1))) (h2 : ¬ ((decodeL (txt x)).length : Int) > 40) (h3 : ¬ ((txt x).size = 0 ∨ hasNL (txt x) = true)) : (0 : Int) = wrongI n x := by
  unfold wrongI
  rw [if_neg h, if_neg h2, if_neg h3]
theorem p45 : vc45 := by
  unfold vc45
  simp only [eq_self, true_and, decide_eq_true_eq, decide_eq_false_iff_not, beq_iff_eq, beq_eq_false_iff_ne, bne_iff_ne, bne_eq_false_iff_eq, ne_eq]
  rintro ⟨n, x, ⟨⟩⟩
  simp only [maxLen_eq, empty_iff]
  intro hs
  have et : x.2.2.2.2.1 = txt x := rfl
  rw [et]
  have f : ¬ x.1 < 1 → ¬ x.2.1 < 0 → ¬ x.2.1 > n → ¬ (x.2.2.1 ≠ 0 ∧ x.2.2.1 ≠ 1) → ¬ (x.1 < 1 ∨ x.2.1 < 0 ∨ x.2.1 > n ∨ (x.2.2.1 ≠ 0 ∧ x.2.2.1 ≠ 1)) := by
    intro a b c d h
    rcases h with h | h | h | h
    · exact a h
    · exact b h
    · exact c h
    · exact d h
  have tail : ¬ (x.1 < 1 ∨ x.2.1 < 0 ∨ x.2.1 > n ∨ (x.2.2.1 ≠ 0 ∧ x.2.2.1 ≠ 1)) → (txt x).size ≤ 9223372036854775807 ∧ (((decodeL (txt x)).length : Int) > 40 → (2 : Int) = wrongI n x) ∧ (¬ ((decodeL (txt x)).length : Int) > 40 →
      ((txt x).size = 0 → (4 : Int) = wrongI n x) ∧ (¬ (txt x).size = 0 → (hasNL (txt x) = true → (4 : Int) = wrongI n x) ∧ (hasNL (txt x) = false → (0 : Int) = wrongI n x))) := fun g =>
    ⟨hs, fun h => wi_2 g h, fun h => ⟨fun h2 => wi_4 g h (.inl h2), fun h2 => ⟨fun h3 => wi_4 g h (.inr h3), fun h3 => wi_0 g h (fun hh => hh.elim h2 (fun hh => by rw [hh] at h3; cases h3))⟩⟩⟩
  exact ⟨fun h => wi_1 (.inl h), fun a => ⟨fun h => wi_1 (.inr (.inl h)), fun b => ⟨fun h => wi_1 (.inr (.inr (.inl h))), fun c => ⟨fun d => ⟨fun e => wi_1 (.inr (.inr (.inr ⟨d, e⟩))), fun e => tail (f a b c (fun hh => hh.2 e))⟩, fun d => tail (f a b c (fun hh => hh.1 d))⟩⟩⟩⟩
def zI : Inl := (0, 0, 0, 0, ByteArray.empty, ())
theorem d105 : Ty.dflt t105 = zI := rfl
theorem d3 : Ty.dflt t3 = (0 : Int) := rfl
theorem ww_1 {n : Int} {l : List Inl} {x : Inl} {e : Int} (h : e = wrongI n x) (he : e ≠ 0) : e = wrongW n l x := by
  unfold wrongW
  rw [if_pos (by rw [← h]; exact he), h]
theorem ww_8 {n : Int} {l : List Inl} {x : Inl} (h : (0 : Int) = wrongI n x) (he : hasId x.1 l = true) : (8 : Int) = wrongW n l x := by
  unfold wrongW
  rw [if_neg (by rw [← h]; decide), if_pos he]
theorem ww_0 {n : Int} {l : List Inl} {x : Inl} (h : (0 : Int) = wrongI n x) (he : hasId x.1 l = false) : (0 : Int) = wrongW n l x := by
  unfold wrongW
  rw [if_neg (by rw [← h]; decide), if_neg (by rw [he]; decide)]
theorem take_snoc' {l : List Inl} {k : Nat} (h : k < l.length) : l.take (k + 1) = l.take k ++ [l.getD k zI] := by
  rw [List.take_succ_eq_append_getElem h, getD_of zI h]
end Go.Fr.D16
namespace Go.Fr.D16
open Go Go.Fr Go.Proofs
theorem p64 : vc64 := by
  unfold vc64
  simp only [eq_self, decide_eq_true_eq, decide_eq_false_iff_not, bne_iff_ne, bne_eq_false_iff_eq, ne_eq]
  rintro ⟨a, b, ⟨⟩⟩
  simp only [not_true, false_imp_iff, true_and, true_imp_iff]
  unfold cmpI
  refine ⟨fun h => by rw [if_pos h], fun h => ⟨fun h2 => by rw [if_neg h, if_pos h2], fun h2 => by rw [if_neg h, if_neg h2]⟩⟩
theorem firstNZ_drop {l : List Int} {k : Nat} (h : ∀ j, j < k → l.getD j 0 = 0) (hk : k ≤ l.length) : firstNZ l = firstNZ (l.drop k) := by
  induction k with
  | zero => rfl
  | succ k ih =>
    rw [ih (fun j hj => h j (by omega)) (by omega), drop_cons 0 (show k < l.length by omega)]
    show (if l.getD k 0 = 0 then firstNZ (l.drop (k + 1)) else l.getD k 0) = _
    rw [if_pos (h k (by omega))]
theorem p63 : vc63 := by
  unfold vc63
  simp only [eq_self, true_and, and_true, decide_eq_true_eq, decide_eq_false_iff_not, bne_iff_ne, bne_eq_false_iff_eq, ne_eq]
  rintro ⟨l, ⟨⟩⟩
  simp only [maxLen_eq, d3]
  intro hl
  refine ⟨fun z => ∃ k : Nat, k ≤ l.length ∧ z.1 = (k : Int) ∧ ∀ j, j < k → l.getD j 0 = 0, fun z => l.length - z.1.toNat, ⟨0, Nat.zero_le _, rfl, fun j hj => by omega⟩, ?_⟩
  rintro a ⟨k, hk, rfl, hz⟩
  simp only [toNat_cast]
  refine ⟨fun h1 => ⟨by omega, fun h2 => ?_, fun h2 => ?_⟩, fun h1 => ?_⟩
  · rw [firstNZ_drop hz hk, drop_cons 0 (show k < l.length by omega)]
    simp only [firstNZ]
    rw [if_neg h2]
  · have hw : IntKind.i64.wrap ((k : Int) + 1) = ((k + 1 : Nat) : Int) := wrap_succ (by omega)
    rw [hw, toNat_cast]
    refine ⟨⟨k + 1, by omega, rfl, fun j hj => ?_⟩, by omega⟩
    by_cases e : j = k
    · subst e; exact h2
    · exact hz j (by omega)
  · rw [firstNZ_drop hz hk, show k = l.length by omega, List.drop_length]
    rfl
theorem p48 : vc48 := by
  unfold vc48
  intro x _
  refine ⟨trivial, trivial, trivial, by simp [maxLen_eq], rfl⟩
theorem p67 : vc67 := by
  unfold vc67
  try simp only [eq_self, true_and, and_true, decide_eq_true_eq, decide_eq_false_iff_not, beq_iff_eq, beq_eq_false_iff_ne, bne_iff_ne, bne_eq_false_iff_eq, Bool.not_eq_true', Bool.not_eq_false', ne_eq, imp_true_iff, implies_true]
  rintro ⟨l, ⟨⟩⟩
  simp only [maxLen_eq]
  intro h c hc
  refine ⟨fun h1 => ?_, fun h1 => ⟨by omega, by omega, by simp⟩⟩
  exact (List.eq_nil_of_length_eq_zero (hc h1)).symm
theorem p51 : vc51 := by
  unfold vc51
  try simp only [eq_self, true_and, and_true, decide_eq_true_eq, decide_eq_false_iff_not, beq_iff_eq, beq_eq_false_iff_ne, bne_iff_ne, bne_eq_false_iff_eq, Bool.not_eq_true', Bool.not_eq_false', ne_eq, imp_true_iff, implies_true]
  rintro ⟨s, ⟨⟩⟩
  simp only
  intro h
  cases s with
  | none => exact ⟨fun _ => rfl, fun h => by cases h⟩
  | some s => exact ⟨fun h => (by cases h), fun _ => ⟨rfl, h, rfl⟩⟩
theorem p50 : vc50 := by
  unfold vc50
  try simp only [eq_self, true_and, and_true, decide_eq_true_eq, decide_eq_false_iff_not, beq_iff_eq, beq_eq_false_iff_ne, bne_iff_ne, bne_eq_false_iff_eq, Bool.not_eq_true', Bool.not_eq_false', ne_eq, imp_true_iff, implies_true]
  rintro ⟨s, ⟨⟩⟩ -
  simp only
  cases s with
  | none => exact ⟨fun _ => rfl, fun h => by cases h⟩
  | some s => exact ⟨fun h => (by cases h), fun _ => ⟨rfl, rfl⟩⟩
theorem err_bad {n : Int} {seen : List Inl} {x : Inl} {r : List Inl} (h : wrongW n seen x ≠ 0) : errI n seen (x :: r) = wrongW n seen x := by
  show (if wrongW n seen x ≠ 0 then wrongW n seen x else errI n (seen ++ [x]) r) = _
  rw [if_pos h]
theorem err_on {n : Int} {seen : List Inl} {x : Inl} {r : List Inl} (h : wrongW n seen x = 0) : errI n seen (x :: r) = errI n (seen ++ [x]) r := by
  show (if wrongW n seen x ≠ 0 then wrongW n seen x else errI n (seen ++ [x]) r) = _
  rw [if_neg (by rw [h]; decide)]
theorem wrong_err {n : Int} {l : List Inl} {e : Int} (h0 : ¬ n < 0) (h1 : ¬ n > 1099511627776) (h2 : ¬ (l.length : Int) > 60) (he : errI n [] l = e) : e = wrongN n l := by
  unfold wrongN
  rw [if_neg (by omega), if_neg h2, he]
theorem new_err {n : Int} {l : List Inl} {e : Int} (he : e = wrongN n l) (hne : e ≠ 0) : (none, e, ()) = newI n l := by
  unfold newI
  rw [← he, if_neg hne]
theorem wrong_n {n : Int} {l : List Inl} (h : n < 0 ∨ n > 1099511627776) : (1 : Int) = wrongN n l := by
  unfold wrongN
  rw [if_pos h]
theorem wrong_5 {n : Int} {l : List Inl} (h0 : ¬ n < 0) (h1 : ¬ n > 1099511627776) (h2 : (l.length : Int) > 60) : (5 : Int) = wrongN n l := by
  unfold wrongN
  rw [if_neg (by omega), if_pos h2]
theorem errI_ids {n : Int} : (seen l : List Inl) → errI n seen l = 0 → (∀ x ∈ l, wrongI n x = 0 ∧ hasId x.1 seen = false) ∧ l.Pairwise (fun a b => a.1 ≠ b.1)
  | _, [], _ => ⟨fun x hx => (by cases hx), List.Pairwise.nil⟩
  | seen, x :: r, h => by
    by_cases hw : wrongW n seen x = 0
    · rw [err_on hw] at h
      have h1 : wrongI n x = 0 := by
        unfold wrongW at hw
        by_cases g : wrongI n x = 0
        · exact g
        · rw [if_pos g] at hw; exact hw
      have h2 : hasId x.1 seen = false := by
        unfold wrongW at hw
        rw [if_neg (by rw [h1]; decide)] at hw
        cases hc : hasId x.1 seen with
        | false => rfl
        | true => rw [hc, if_pos rfl] at hw; cases hw
      obtain ⟨g1, g2⟩ := errI_ids (seen ++ [x]) r h
      have part : ∀ y ∈ r, hasId y.1 seen = false ∧ x.1 ≠ y.1 := fun y hy => by
        have := (g1 y hy).2
        simp [hasId] at this
        refine ⟨?_, this.2⟩
        simp [hasId]
        exact this.1
      refine ⟨fun y hy => ?_, List.pairwise_cons.2 ⟨fun y hy => (part y hy).2, g2⟩⟩
      rcases List.mem_cons.1 hy with e | hy
      · subst e; exact ⟨h1, h2⟩
      · exact ⟨(g1 y hy).1, (part y hy).1⟩
    · rw [err_bad hw] at h
      exact absurd h hw
theorem ids_one {l : List Inl} (h : l.Pairwise (fun a b => a.1 ≠ b.1)) {x y : Inl} (hx : x ∈ l) (hy : y ∈ l) (e : x.1 = y.1) : x = y := by
  obtain ⟨i, hi, h1⟩ := List.getElem_of_mem hx
  obtain ⟨j, hj, h2⟩ := List.getElem_of_mem hy
  rcases Nat.lt_trichotomy i j with g | g | g
  · have := List.pairwise_iff_getElem.1 h i j hi hj g
    rw [h1, h2] at this
    exact absurd e this
  · subst g; rw [← h1, ← h2]
  · have := List.pairwise_iff_getElem.1 h j i hj hi g
    rw [h1, h2] at this
    exact absurd e.symm this
theorem one_way {l ys : List Inl} (h : l.Pairwise (fun a b => a.1 ≠ b.1)) (hp : ys.Perm l) (hs : ys.Pairwise (fun a b => ¬ cmpL b a < 0)) : ys = sortI l :=
  sort_one_way swoL (fun x hx y hy h1 h2 => ids_one h hx hy (alikeL h1 h2)) hp hs
theorem clean_ids {l : List Inl} (h : l.Pairwise (fun a b => a.1 ≠ b.1)) : (l.map cleanI).Pairwise (fun a b => a.1 ≠ b.1) := by
  rw [List.pairwise_map]
  exact h
def keysU (l : List Inl) : List (Int × Unit × Unit) := l.map fun x => (x.1, (), ())
theorem mget_keysU (i : Int) : (l : List Inl) → (mget t3 t107 i (keysU l) = none ↔ hasId i l = false) ∧ (Option.isSome (mget t3 t107 i (keysU l)) = true ↔ hasId i l = true)
  | [] => by simp [keysU, mget, hasId]
  | x :: r => by
    have ih := mget_keysU i r
    have e : mget t3 t107 i (keysU (x :: r)) = bif Ty.beq t3 i x.1 then some () else mget t3 t107 i (keysU r) := rfl
    rw [e]
    by_cases h : i = x.1
    · rw [show Ty.beq t3 i x.1 = true from by simp [Ty.beq, h]]
      simp [hasId, h]
    · rw [show Ty.beq t3 i x.1 = false from by simp [Ty.beq, h]]
      have hx : ¬ x.1 = i := fun hh => h hh.symm
      simp only [cond_false, hasId, List.any_cons, hx, decide_false, Bool.false_or]
      exact ih
theorem keysU_snoc {l : List Inl} {k : Nat} (h : k < l.length) : keysU (l.take (k + 1)) = keysU (l.take k) ++ [((l.getD k zI).1, (), ())] := by
  rw [take_snoc' h]
  simp [keysU]
theorem clean_snoc {l : List Inl} {k : Nat} (h : k < l.length) : (l.take (k + 1)).map cleanI = (l.take k).map cleanI ++ [((l.getD k zI).1, (l.getD k zI).2.1, (l.getD k zI).2.2.1, (l.getD k zI).2.2.2.1, clean (txt (l.getD k zI)), ())] := by
  rw [take_snoc' h, List.map_append]
  rfl
theorem p25 : vc25 := by
  unfold vc25
  simp only [eq_self, true_and, and_true, decide_eq_true_eq, decide_eq_false_iff_not, bne_iff_ne, bne_eq_false_iff_eq, ne_eq]
  rintro ⟨n, l, ⟨⟩⟩
  simp only [maxLen_eq, d105]
  rintro ⟨hlm, hsh⟩
  have w1 : (n < 0 ∨ n > 1099511627776) → (none, (1 : Int), ()) = newI n l := fun h => new_err (wrong_n h) (by decide)
  refine ⟨fun h0 => w1 (.inl h0), fun h0 => ⟨fun h1 => w1 (.inr h1), fun h1 => ⟨fun h2 => new_err (wrong_5 h0 h1 h2) (by decide), fun h2 => ?_⟩⟩⟩
  refine ⟨fun z => ∃ k : Nat, k ≤ l.length ∧ z.1 = (k : Int) ∧ z.2.1 = keysU (l.take k) ∧ z.2.2.1 = (l.take k).map cleanI ∧ errI n [] l = errI n (l.take k) (l.drop k), fun z => l.length - z.1.toNat, ⟨0, Nat.zero_le _, rfl, rfl, rfl, rfl⟩, ?_⟩
  rintro i m o ⟨k, hk, hi, hm, ho, he⟩
  simp only at hi hm ho
  subst hi hm
  have hol : o.length = k := by rw [ho]; simp; omega
  refine ⟨fun h3 => ?_, fun h3 => ?_⟩
  · have hk' : k < l.length := by omega
    have hd := drop_cons zI hk'
    have htk := take_snoc' hk'
    have hks := keysU_snoc hk'
    have hcs := clean_snoc hk'
    have hsx := hsh _ (List.getElem_mem hk')
    rw [← getD_of zI hk'] at hsx
    rw [hd] at he
    rw [toNat_cast]
    generalize hx : l.getD k zI = x at he htk hks hcs hsx ⊢
    have hwk : IntKind.i64.wrap ((k : Int) + 1) = ((k + 1 : Nat) : Int) := wrap_succ (by omega)
    obtain ⟨g1, g2⟩ := mget_keysU x.1 (l.take k)
    have et : x.2.2.2.2.1 = txt x := rfl
    rw [hwk, et]
    simp only [List.length_singleton, toNat_cast]
    have bad : ¬ wrongI n x = 0 → (none, wrongI n x, ()) = newI n l := fun h => by
      have e : wrongW n (l.take k) x = wrongI n x := (ww_1 rfl h).symm
      exact new_err (wrong_err h0 h1 h2 (he.trans ((err_bad (by rw [e]; exact h)).trans e))) h
    have same : wrongI n x = 0 → Option.isSome (mget t3 t107 x.1 (keysU (l.take k))) = true → (none, (8 : Int), ()) = newI n l := fun h hs => by
      have e : wrongW n (l.take k) x = 8 := (ww_8 h.symm (g2.1 hs)).symm
      exact new_err (wrong_err h0 h1 h2 (he.trans ((err_bad (by rw [e]; decide)).trans e))) (by decide)
    refine ⟨⟨by omega, h3⟩, by omega, bad, fun h4 => ⟨same h4, fun h5 => ?_⟩⟩
    have hno : hasId x.1 (l.take k) = false := by
      cases hc : hasId x.1 (l.take k) with
      | false => rfl
      | true => rw [g2.2 hc] at h5; cases h5
    have Zf : ∃ k' : Nat, k' ≤ l.length ∧ ((k + 1 : Nat) : Int) = (k' : Int) ∧ keysU (l.take k) ++ [(x.1, (), ())] = keysU (l.take k') ∧ o ++ [(x.1, x.2.1, x.2.2.1, x.2.2.2.1, clean (txt x), ())] = (l.take k').map cleanI ∧ errI n [] l = errI n (l.take k') (l.drop k') :=
      ⟨k + 1, hk', rfl, hks.symm, by rw [hcs, ho], by rw [he, err_on (ww_0 h4.symm hno).symm, htk]⟩
    have f1 : (o.length + 1) * 48 ≤ 140737488355328 := by omega
    have f2 : o.length + 1 ≤ 9223372036854775807 := by omega
    have f3 : l.length - (k + 1) < l.length - k := by omega
    exact ⟨g1.2 hno, by omega, ⟨f1, f2, Zf, f3⟩, ⟨f1, f2, Zf, f3⟩, f1, f2, Zf, f3⟩
  · have hke : k = l.length := by omega
    subst hke
    rw [List.take_length, List.drop_length] at he
    rw [List.take_length] at ho
    have he : errI n [] l = 0 := he
    refine ⟨by omega, ?_⟩
    rintro ys ⟨hp, hs⟩
    have hw : wrongN n l = 0 := (wrong_err h0 h1 h2 he).symm
    unfold newI
    rw [ho] at hp
    rw [if_pos hw, ← one_way (clean_ids (errI_ids [] l he).2) hp hs]
end Go.Fr.D16
namespace Go.Fr.D16
open Go Go.Fr Go.Proofs
def left (l : List Inl) (rm : List Int) : List Inl := l.filter fun x => !rm.contains x.1
end Go.Fr.D16
namespace Go.Fr.D16
open Go Go.Fr Go.Proofs
theorem errI_zero {n : Int} : (seen l : List Inl) → (∀ x ∈ l, wrongI n x = 0 ∧ hasId x.1 seen = false) → l.Pairwise (fun a b => a.1 ≠ b.1) → errI n seen l = 0
  | _, [], _, _ => rfl
  | seen, x :: r, h, hp => by
    obtain ⟨h1, h2⟩ := h x (List.mem_cons_self ..)
    obtain ⟨p1, p2⟩ := List.pairwise_cons.1 hp
    rw [err_on (ww_0 h1.symm h2).symm]
    refine errI_zero _ r (fun y hy => ⟨(h y (List.mem_cons_of_mem _ hy)).1, ?_⟩) p2
    have g := (h y (List.mem_cons_of_mem _ hy)).2
    simp [hasId] at g ⊢
    exact ⟨g, p1 y hy⟩
theorem wrong_zero {n : Int} {l : List Inl} : wrongN n l = 0 ↔ (0 ≤ n ∧ n ≤ 1099511627776) ∧ (l.length : Int) ≤ 60 ∧ (∀ x ∈ l, wrongI n x = 0) ∧ l.Pairwise (fun a b => a.1 ≠ b.1) := by
  unfold wrongN
  by_cases h1 : n < 0 ∨ n > 1099511627776
  · rw [if_pos h1]
    constructor
    · intro h; cases h
    · intro h; omega
  · rw [if_neg h1]
    by_cases h2 : (l.length : Int) > 60
    · rw [if_pos h2]
      constructor
      · intro h; cases h
      · intro h; omega
    · rw [if_neg h2]
      constructor
      · intro h
        have := errI_ids [] l h
        exact ⟨by omega, by omega, fun x hx => (this.1 x hx).1, this.2⟩
      · rintro ⟨_, _, h3, h4⟩
        exact errI_zero [] l (fun x hx => ⟨h3 x hx, rfl⟩) h4
theorem sort_id {l : List Inl} (hp : l.Pairwise (fun a b => a.1 ≠ b.1)) (hs : l.Pairwise (fun a b => ¬ cmpL b a < 0)) : sortI l = l := (one_way hp (List.Perm.refl _) hs).symm
theorem new_fst {n : Int} {l : List Inl} (h : wrongN n l = 0) : newI n l = (some (n, sortI (l.map cleanI), ()), 0, ()) := by rw [newI, if_pos h]
def Made (s : Option ISet) (w : WSet) : Prop := ∃ n L, s = some (n, L, ()) ∧ w = (n, L, 0, ()) ∧ wrongN n L = 0 ∧ L.map cleanI = L ∧ L.Pairwise (fun a b => ¬ cmpL b a < 0)
end Go.Fr.D16
namespace Go.Fr.D16
open Go Go.Fr Go.Proofs
theorem getD_in {α : Type} (d : α) {l : List α} {i : Nat} (h : i < l.length) : l.getD i d ∈ l := by
  rw [List.getD_eq_getElem?_getD, List.getElem?_eq_getElem h]
  exact List.getElem_mem h
theorem wf_height : {h : Nat} → {top : Bool} → {n : Nd} → Wf h top n → heightOf n = (h : Int) ∧ 1 ≤ h ∧ n ≠ .nil
  | 0, _, _, e => e.elim
  | _ + 1, _, .nil, e => e.elim
  | h + 1, _, .leaf a, e => by
    have : h = 0 := e.1
    subst this
    exact ⟨rfl, by omega, fun e => by cases e⟩
  | h + 1, _, .inner ks b, e => ⟨e.2.2.2.1, by omega, fun e => by cases e⟩
theorem wf_top : {h : Nat} → {n : Nd} → Wf h false n → Wf h true n
  | 0, _, e => e
  | _ + 1, .nil, e => e
  | h + 1, .leaf a, e => ⟨e.1, by have := e.2.1; simp at this ⊢; omega, e.2.2⟩
  | h + 1, .inner ks b, e => ⟨e.1, by have := e.2.1; simp at this ⊢; omega, e.2.2⟩
theorem wf_any {h : Nat} {top : Bool} {n : Nd} (e : Wf h top n) : Wf h true n := by
  cases top with
  | true => exact e
  | false => exact wf_top e
theorem itemsF_eq : (h : Nat) → (top : Bool) → (n : Nd) → (m m' : Nat) → Wf h top n → h ≤ m → h ≤ m' → itemsF m n = itemsF m' n
  | 0, _, _, _, _, e, _, _ => e.elim
  | _ + 1, _, .nil, _, _, e, _, _ => e.elim
  | h + 1, _, .leaf a, m + 1, m' + 1, _, _, _ => rfl
  | h + 1, _, .inner ks b, m + 1, m' + 1, e, h1, h2 => by
    show ks.flatMap (itemsF m) = ks.flatMap (itemsF m')
    have hk : ∀ k ∈ ks, Wf h false k := e.2.2.2.2.2
    rw [List.flatMap_def, List.flatMap_def]
    congr 1
    exact List.map_congr_left fun k hk' => itemsF_eq h false k m m' (hk k hk') (by omega) (by omega)
  | _ + 1, _, _, 0, _, _, h1, _ => absurd h1 (by omega)
  | _ + 1, _, _, _ + 1, 0, _, _, h2 => absurd h2 (by omega)
theorem flat_congr {α β : Type} {f g : α → List β} {l : List α} (h : ∀ a ∈ l, f a = g a) : l.flatMap f = l.flatMap g := by
  simp only [List.flatMap_def]
  exact congrArg List.flatten (List.map_congr_left h)
theorem itemsF_of {m k : Nat} (h : m = k + 1) (ks : List Nd) (b : Nx) : itemsF m (.inner ks b) = ks.flatMap (itemsF k) := by
  subst h
  rfl
theorem items_def (n : Nd) : items n = itemsF 101 n := rfl
theorem items_inner {h : Nat} {top : Bool} {ks : List Nd} {b : Nx} (e : Wf (h + 1) top (.inner ks b)) (hh : h + 1 ≤ 101) : items (.inner ks b) = ks.flatMap items := by
  refine (items_def _).trans ((itemsF_of (k := 100) (by decide) ks b).trans ?_)
  have hk : ∀ k ∈ ks, Wf h false k := e.2.2.2.2.2
  exact flat_congr fun k hk' => (itemsF_eq h false k 100 101 (hk k hk') (by omega) (by omega)).trans (items_def k).symm
theorem items_leaf (a : Lf) : items (.leaf a) = a.1 := rfl
theorem items_nil : items .nil = [] := rfl
theorem wf_leaf {top : Bool} {l : List Itm} (h1 : (if top = true then 1 else 4) ≤ l.length) (h2 : l.length ≤ 8) : Wf 1 top (mkLeaf l) := ⟨rfl, h1, h2, rfl⟩
theorem wf_inner {h : Nat} {top : Bool} {ks : List Nd} (h0 : 1 ≤ h) (hh : h ≤ 200) (h1 : (if top = true then 2 else 4) ≤ ks.length) (h2 : ks.length ≤ 8) (hk : ∀ k ∈ ks, Wf h false k) : Wf (h + 1) top (mkInner ks) := by
  refine ⟨h0, h1, h2, ?_, rfl, hk⟩
  have hpos : 0 < ks.length := by split at h1 <;> omega
  have hk0 := (wf_height (hk _ (getD_in .nil hpos))).1
  show w64 (heightOf (ks.getD 0 .nil) + 1) = _
  rw [hk0]
  unfold w64
  rw [wrap_id (by omega) (by omega)]
  omega
def OneTwo (m : Nat) (L : List Nd) (l : List Itm) : Prop := 1 ≤ L.length ∧ L.length ≤ 2 ∧ L.flatMap items = l ∧ (∀ r ∈ L, Wf m true r) ∧ (L.length = 2 → ∀ r ∈ L, Wf m false r)
theorem spread_ok {l : List Itm} (h1 : 1 ≤ l.length) (h2 : l.length ≤ 16) : OneTwo 1 (spread l) l ∧ (4 ≤ l.length → ∀ r ∈ spread l, Wf 1 false r) := by
  unfold spread
  by_cases h : l.length ≤ 8
  · rw [if_pos h]
    refine ⟨⟨Nat.le_refl _, by simp, ?_, fun r hr => ?_, fun e => by simp at e⟩, fun h4 r hr => ?_⟩
    · show items (mkLeaf l) ++ [] = l
      rw [List.append_nil]; rfl
    · rw [List.mem_singleton.1 hr]
      exact wf_leaf (by simpa using h1) h
    · rw [List.mem_singleton.1 hr]
      exact wf_leaf (by simpa using h4) h
  · rw [if_neg h]
    have t1 : (l.take (l.length / 2)).length = l.length / 2 := by simp; omega
    have t2 : (l.drop (l.length / 2)).length = l.length - l.length / 2 := by simp
    have full : ∀ r ∈ [mkLeaf (l.take (l.length / 2)), mkLeaf (l.drop (l.length / 2))], Wf 1 false r := fun r hr => by
      rcases List.mem_cons.1 hr with e | hr
      · subst e; exact wf_leaf (by simp; omega) (by omega)
      · rw [List.mem_singleton.1 hr]; exact wf_leaf (by simp; omega) (by omega)
    refine ⟨⟨by simp, Nat.le_refl _, ?_, fun r hr => wf_top (full r hr), fun _ => full⟩, fun _ => full⟩
    show items (mkLeaf _) ++ (items (mkLeaf _) ++ []) = l
    rw [List.append_nil]
    exact List.take_append_drop _ _
theorem raise_ok {m : Nat} {ks : List Nd} (m0 : 1 ≤ m) (mm : m ≤ 100) (h1 : 2 ≤ ks.length) (h2 : ks.length ≤ 16) (hk : ∀ k ∈ ks, Wf m false k) :
    OneTwo (m + 1) (raise ks) (ks.flatMap items) ∧ (4 ≤ ks.length → ∀ r ∈ raise ks, Wf (m + 1) false r) := by
  unfold raise
  by_cases h : ks.length ≤ 8
  · rw [if_pos h]
    have wt : Wf (m + 1) true (mkInner ks) := wf_inner m0 (by omega) (by simpa using h1) h hk
    refine ⟨⟨Nat.le_refl _, by simp, ?_, fun r hr => ?_, fun e => by simp at e⟩, fun h4 r hr => ?_⟩
    · show items (mkInner ks) ++ [] = _
      rw [List.append_nil]
      exact items_inner wt (by omega)
    · rw [List.mem_singleton.1 hr]; exact wt
    · rw [List.mem_singleton.1 hr]
      exact wf_inner m0 (by omega) (by simpa using h4) h hk
  · rw [if_neg h]
    have t1 : (ks.take (ks.length / 2)).length = ks.length / 2 := by simp; omega
    have t2 : (ks.drop (ks.length / 2)).length = ks.length - ks.length / 2 := by simp
    have w1 : Wf (m + 1) false (mkInner (ks.take (ks.length / 2))) := wf_inner m0 (by omega) (by simp; omega) (by omega) fun k hk' => hk k (List.mem_of_mem_take hk')
    have w2 : Wf (m + 1) false (mkInner (ks.drop (ks.length / 2))) := wf_inner m0 (by omega) (by simp; omega) (by omega) fun k hk' => hk k (List.mem_of_mem_drop hk')
    have full : ∀ r ∈ [mkInner (ks.take (ks.length / 2)), mkInner (ks.drop (ks.length / 2))], Wf (m + 1) false r := fun r hr => by
      rcases List.mem_cons.1 hr with e | hr
      · subst e; exact w1
      · rw [List.mem_singleton.1 hr]; exact w2
    refine ⟨⟨by simp, Nat.le_refl _, ?_, fun r hr => wf_top (full r hr), fun _ => full⟩, fun _ => full⟩
    show items (mkInner _) ++ (items (mkInner _) ++ []) = _
    unfold mkInner at w1 w2 ⊢
    rw [List.append_nil, items_inner w1 (by omega), items_inner w2 (by omega), ← List.flatMap_append, List.take_append_drop]
theorem meld_ok : (n h k : Nat) → (a b : Nd) → h + k ≤ n → h ≤ 100 → k ≤ 100 → Wf h true a → Wf k true b →
    OneTwo (max h k) (meldF n a b) (items a ++ items b) ∧ (k ≤ h → Wf h false a → ∀ r ∈ meldF n a b, Wf (max h k) false r) ∧ (h ≤ k → Wf k false b → ∀ r ∈ meldF n a b, Wf (max h k) false r)
  | 0, h, k, a, b, hn, _, _, wa, wb => by
    have := (wf_height wa).2.1
    omega
  | n + 1, h, k, a, b, hn, h100, k100, wa, wb => by
    obtain ⟨ea, pa, na⟩ := wf_height wa
    obtain ⟨eb, pb, nb⟩ := wf_height wb
    have e : meldF (n + 1) a b = if heightOf a > heightOf b then raise ((kidsOf a).take ((kidsOf a).length - 1) ++ meldF n ((kidsOf a).getD ((kidsOf a).length - 1) .nil) b)
      else if heightOf a < heightOf b then raise (meldF n a ((kidsOf b).getD 0 .nil) ++ (kidsOf b).drop 1)
      else if (NT.asLeaf a).isSome = true then spread (itemsOf a ++ itemsOf b) else raise (kidsOf a ++ kidsOf b) := rfl
    rw [e, ea, eb]
    by_cases h1 : (h : Int) > (k : Int)
    · rw [if_pos h1]
      obtain ⟨h', rfl⟩ : ∃ h', h = h' + 1 := ⟨h - 1, by omega⟩
      cases a with
      | nil => exact absurd rfl na
      | leaf a => have := wa.1; omega
      | inner ks bx =>
        have wa' := wa
        obtain ⟨w1, w2, w3, w4, w5, w6⟩ := wa
        simp only [if_true] at w2
        show OneTwo _ (raise (ks.take (ks.length - 1) ++ meldF n (ks.getD (ks.length - 1) .nil) b)) _ ∧ _
        have hl : ks.length - 1 < ks.length := by omega
        have wl := w6 _ (getD_in .nil hl)
        have hsplit : ks = ks.take (ks.length - 1) ++ [ks.getD (ks.length - 1) .nil] := by
          conv => lhs; rw [← List.take_append_drop (ks.length - 1) ks]
          congr 1
          rw [drop_cons .nil hl, show ks.length - 1 + 1 = ks.length by omega, List.drop_length]
        obtain ⟨⟨i1, i2, i3, i4, i5⟩, i6, _⟩ := meld_ok n h' k _ b (by omega) (by omega) k100 (wf_top wl) wb
        have full := i6 (by omega) wl
        have hm : max h' k = h' := by omega
        rw [hm] at full
        have hkk : ∀ r ∈ ks.take (ks.length - 1) ++ meldF n (ks.getD (ks.length - 1) .nil) b, Wf h' false r := fun r hr => by
          rcases List.mem_append.1 hr with hr | hr
          · exact w6 r (List.mem_of_mem_take hr)
          · exact full r hr
        have hlen : (ks.take (ks.length - 1) ++ meldF n (ks.getD (ks.length - 1) .nil) b).length = ks.length - 1 + (meldF n (ks.getD (ks.length - 1) .nil) b).length := by
          rw [List.length_append, List.length_take]; omega
        obtain ⟨r1, r2⟩ := raise_ok w1 (by omega) (by omega) (by omega) hkk
        have hm2 : max (h' + 1) k = h' + 1 := by omega
        rw [hm2]
        have eit : (ks.take (ks.length - 1) ++ meldF n (ks.getD (ks.length - 1) .nil) b).flatMap items = items (.inner ks bx) ++ items b := by
          rw [List.flatMap_append, i3, items_inner wa' (by omega)]
          conv => rhs; rw [hsplit]
          rw [List.flatMap_append]
          simp
        rw [eit] at r1
        exact ⟨r1, fun _ wf => r2 (by
          have := wf.2.1
          simp at this
          omega), fun hle _ => by omega⟩
    · rw [if_neg h1]
      by_cases h2 : (h : Int) < (k : Int)
      · rw [if_pos h2]
        obtain ⟨k', rfl⟩ : ∃ k', k = k' + 1 := ⟨k - 1, by omega⟩
        cases b with
        | nil => exact absurd rfl nb
        | leaf b => have := wb.1; omega
        | inner ks bx =>
          have wb' := wb
          obtain ⟨w1, w2, w3, w4, w5, w6⟩ := wb
          simp only [if_true] at w2
          show OneTwo _ (raise (meldF n a (ks.getD 0 .nil) ++ ks.drop 1)) _ ∧ _
          have hl : 0 < ks.length := by omega
          have wl := w6 _ (getD_in .nil hl)
          have hsplit : ks = [ks.getD 0 .nil] ++ ks.drop 1 := by
            have := drop_cons (.nil : Nd) hl
            simpa using this
          obtain ⟨⟨i1, i2, i3, i4, i5⟩, _, i6⟩ := meld_ok n h k' a _ (by omega) h100 (by omega) wa (wf_top wl)
          have full := i6 (by omega) wl
          have hm : max h k' = k' := by omega
          rw [hm] at full
          have hkk : ∀ r ∈ meldF n a (ks.getD 0 .nil) ++ ks.drop 1, Wf k' false r := fun r hr => by
            rcases List.mem_append.1 hr with hr | hr
            · exact full r hr
            · exact w6 r (List.mem_of_mem_drop hr)
          have hlen : (meldF n a (ks.getD 0 .nil) ++ ks.drop 1).length = (meldF n a (ks.getD 0 .nil)).length + (ks.length - 1) := by
            rw [List.length_append, List.length_drop]
          obtain ⟨r1, r2⟩ := raise_ok w1 (by omega) (by omega) (by omega) hkk
          have hm2 : max h (k' + 1) = k' + 1 := by omega
          rw [hm2]
          have eit : (meldF n a (ks.getD 0 .nil) ++ ks.drop 1).flatMap items = items a ++ items (.inner ks bx) := by
            rw [List.flatMap_append, i3, items_inner wb' (by omega)]
            conv => rhs; rw [hsplit]
            rw [List.flatMap_append]
            simp
          rw [eit] at r1
          exact ⟨r1, fun hle _ => by omega, fun _ wf => r2 (by
            have := wf.2.1
            simp at this
            omega)⟩
      · rw [if_neg h2]
        have hk : h = k := by omega
        subst hk
        have hm : max h h = h := by omega
        rw [hm]
        obtain ⟨h', rfl⟩ : ∃ h', h = h' + 1 := ⟨h - 1, by omega⟩
        cases a with
        | nil => exact absurd rfl na
        | leaf a =>
          have h0 := wa.1
          subst h0
          cases b with
          | nil => exact absurd rfl nb
          | inner ks bx => exact absurd wb.1 (by decide)
          | leaf b =>
            rw [if_pos (show (NT.asLeaf (NT.leaf a : Nd)).isSome = true from rfl)]
            show OneTwo 1 (spread (a.1 ++ b.1)) (a.1 ++ b.1) ∧ _
            obtain ⟨_, a2, a3, _⟩ := wa
            obtain ⟨_, b2, b3, _⟩ := wb
            simp only [if_true] at a2 b2
            obtain ⟨s1, s2⟩ := spread_ok (l := a.1 ++ b.1) (by rw [List.length_append]; omega) (by rw [List.length_append]; omega)
            refine ⟨s1, fun _ wf => s2 ?_, fun _ wf => s2 ?_⟩
            · have := wf.2.1
              simp at this
              rw [List.length_append]; omega
            · have := wf.2.1
              simp at this
              rw [List.length_append]; omega
        | inner ks bx =>
          cases b with
          | nil => exact absurd rfl nb
          | leaf b => have := wb.1; have := wa.1; omega
          | inner ls by_ =>
            rw [if_neg (show ¬ (NT.asLeaf (NT.inner ks bx : Nd)).isSome = true from fun hh => by cases hh)]
            show OneTwo (h' + 1) (raise (ks ++ ls)) _ ∧ _
            have wa' := wa
            have wb' := wb
            obtain ⟨w1, w2, w3, w4, w5, w6⟩ := wa
            obtain ⟨v1, v2, v3, v4, v5, v6⟩ := wb
            simp only [if_true] at w2 v2
            obtain ⟨r1, r2⟩ := raise_ok (ks := ks ++ ls) w1 (by omega) (by rw [List.length_append]; omega) (by rw [List.length_append]; omega) fun k hk => by
              rcases List.mem_append.1 hk with hk | hk
              · exact w6 k hk
              · exact v6 k hk
            rw [List.flatMap_append, ← items_inner wa' (by omega), ← items_inner wb' (by omega)] at r1
            have f := r2 (by rw [List.length_append]; omega)
            exact ⟨r1, fun _ _ => f, fun _ _ => f⟩
theorem count_full : (h : Nat) → (n : Nd) → h ≤ 100 → Wf h false n → 4 ^ h ≤ (items n).length
  | 0, _, _, e => e.elim
  | _ + 1, .nil, _, e => e.elim
  | h + 1, .leaf a, _, e => by
    have := e.1
    subst this
    have := e.2.1
    simp at this
    exact this
  | h + 1, .inner ks b, hh, e => by
    have e' := e
    obtain ⟨w1, w2, w3, w4, w5, w6⟩ := e
    simp at w2
    rw [items_inner e' (by omega)]
    have : ∀ l : List Nd, (∀ k ∈ l, Wf h false k) → l.length * 4 ^ h ≤ (l.flatMap items).length := by
      intro l
      induction l with
      | nil => intro _; simp
      | cons k r ih =>
        intro hk
        have h1 := count_full h k (by omega) (hk k (List.mem_cons_self ..))
        have h2 := ih fun k' hk' => hk k' (List.mem_cons_of_mem _ hk')
        simp only [List.flatMap_cons, List.length_append, List.length_cons, Nat.succ_mul]
        omega
    have h3 := this ks w6
    have h4 : 4 * 4 ^ h ≤ ks.length * 4 ^ h := Nat.mul_le_mul_right _ w2
    rw [Nat.pow_succ]
    omega
theorem count_top {h : Nat} {n : Nd} (hh : h ≤ 100) (e : Wf h true n) : 1 ≤ (items n).length ∧ (2 ≤ h → 2 * 4 ^ (h - 1) ≤ (items n).length) := by
  cases h with
  | zero => exact e.elim
  | succ h =>
    cases n with
    | nil => exact e.elim
    | leaf a =>
      have := e.1
      subst this
      have := e.2.1
      simp at this
      exact ⟨this, fun h => by omega⟩
    | inner ks b =>
      have e' := e
      obtain ⟨w1, w2, w3, w4, w5, w6⟩ := e
      simp at w2
      have : ∀ l : List Nd, (∀ k ∈ l, Wf h false k) → l.length * 4 ^ h ≤ (l.flatMap items).length := by
        intro l
        induction l with
        | nil => intro _; simp
        | cons k r ih =>
          intro hk
          have h1 := count_full h k (by omega) (hk k (List.mem_cons_self ..))
          have h2 := ih fun k' hk' => hk k' (List.mem_cons_of_mem _ hk')
          simp only [List.flatMap_cons, List.length_append, List.length_cons, Nat.succ_mul]
          omega
      have h3 := this ks w6
      have h4 : 2 * 4 ^ h ≤ ks.length * 4 ^ h := Nat.mul_le_mul_right _ w2
      have h5 : 0 < 4 ^ h := Nat.pow_pos (by omega)
      rw [items_inner e' (by omega)]
      exact ⟨by omega, fun _ => by rw [Nat.add_sub_cancel]; omega⟩
theorem not_high {h : Nat} {n : Nd} (hh : h ≤ 101) (e : Wf h true n) (hc : (itemsF 200 n).length ≤ 1000000) : h ≤ 100 := by
  by_cases h1 : h ≤ 100
  · exact h1
  · exfalso
    have : h = 101 := by omega
    subst this
    cases n with
    | nil => exact e.elim
    | leaf a => exact absurd e.1 (by decide)
    | inner ks b =>
      obtain ⟨w1, w2, w3, w4, w5, w6⟩ := e
      simp at w2
      have hk0 := w6 _ (getD_in .nil (show 0 < ks.length by omega))
      have c := count_full 100 _ (Nat.le_refl _) hk0
      have e0 : items (ks.getD 0 .nil) = itemsF 199 (ks.getD 0 .nil) := (items_def _).trans (itemsF_eq 100 false _ 101 199 hk0 (by omega) (by omega))
      have hs : ks = [ks.getD 0 .nil] ++ ks.drop 1 := by
        have := drop_cons (.nil : Nd) (show 0 < ks.length by omega)
        simpa using this
      have : (itemsF 199 (ks.getD 0 .nil)).length ≤ (itemsF 200 (.inner ks b)).length := by
        rw [itemsF_of (k := 199) (by decide)]
        conv => rhs; rw [hs]
        rw [List.flatMap_append, List.length_append]
        simp
      rw [e0] at c
      have big : (1000000 : Nat) < 4 ^ 100 := by decide
      omega
theorem isNil_t {n : Nd} : NT.isNil n = true ↔ n = .nil := by
  cases n <;> simp [NT.isNil]
theorem isNil_f {n : Nd} : NT.isNil n = false ↔ n ≠ .nil := by
  cases n <;> simp [NT.isNil]
theorem join_ok {a b : Nd} (ha : WfN a) (hb : WfN b) (hc : (items a).length + (items b).length ≤ 1000000) : WfN (join a b) ∧ items (join a b) = items a ++ items b := by
  unfold join
  rcases ha with rfl | ⟨h, h1, wa⟩
  · rw [if_pos (show NT.isNil (NT.nil : Nd) = true from rfl)]
    exact ⟨hb, by rw [items_nil, List.nil_append]⟩
  rw [if_neg (by rw [isNil_t]; exact (wf_height wa).2.2)]
  rcases hb with rfl | ⟨k, k1, wb⟩
  · rw [if_pos (show NT.isNil (NT.nil : Nd) = true from rfl)]
    exact ⟨.inr ⟨h, h1, wa⟩, by rw [items_nil, List.append_nil]⟩
  rw [if_neg (by rw [isNil_t]; exact (wf_height wb).2.2)]
  have em : meld a b = meldF (h + k) a b := by
    unfold meld
    rw [(wf_height wa).1, (wf_height wb).1]
    rfl
  rw [em]
  obtain ⟨⟨m1, m2, m3, m4, m5⟩, _, _⟩ := meld_ok (h + k) h k a b (Nat.le_refl _) h1 k1 wa wb
  generalize meldF (h + k) a b = L at m1 m2 m3 m4 m5 ⊢
  by_cases hl : L.length = 1
  · rw [if_pos hl]
    have hL : L = [L.getD 0 .nil] := by
      match L, hl with
      | [x], _ => rfl
    refine ⟨.inr ⟨max h k, by omega, m4 _ (getD_in (NT.nil : Nd) (show 0 < L.length by omega))⟩, ?_⟩
    rw [← m3]
    conv => rhs; rw [hL]
    simp
  · rw [if_neg hl]
    have hl2 : L.length = 2 := by omega
    have w : Wf (max h k + 1) true (mkInner L) := wf_inner (by have := (wf_height wa).2.1; omega) (by omega) (by simp; omega) (by omega) (m5 hl2)
    have ei : itemsF 200 (mkInner L) = items a ++ items b := by
      rw [← m3]
      exact (itemsF_of (k := 199) (by decide) L _).trans (flat_congr fun r hr => (itemsF_eq _ true r 199 101 (m4 r hr) (by omega) (by omega)).trans (items_def r).symm)
    have hh := not_high (by omega) w (by rw [ei, List.length_append]; omega)
    refine ⟨.inr ⟨_, hh, w⟩, ?_⟩
    exact (items_def _).trans ((itemsF_eq _ true _ 101 200 w (by omega) (by omega)).trans ei)
theorem build_ok (l : List Itm) (hl : l.length ≤ 100000) : (k : Nat) → 8 * k ≤ l.length + 7 → WfN (build l k) ∧ items (build l k) = l.take (8 * k)
  | 0, _ => ⟨.inl rfl, by simp [build, items_nil]⟩
  | k + 1, hk => by
    obtain ⟨h1, h2⟩ := build_ok l hl k (by omega)
    have hc : 1 ≤ ((l.drop (8 * k)).take 8).length ∧ ((l.drop (8 * k)).take 8).length ≤ 8 := by
      rw [List.length_take, List.length_drop]; omega
    have w : WfN (mkLeaf ((l.drop (8 * k)).take 8)) := .inr ⟨1, by omega, wf_leaf (by simpa using hc.1) hc.2⟩
    have hi : items (mkLeaf ((l.drop (8 * k)).take 8)) = (l.drop (8 * k)).take 8 := rfl
    obtain ⟨j1, j2⟩ := join_ok h1 w (by rw [h2, hi, List.length_take]; omega)
    refine ⟨j1, ?_⟩
    show items (join (build l k) _) = _
    rw [j2, h2, hi, show 8 * (k + 1) = 8 * k + 8 by omega, List.take_add]
theorem buildT_ok {l : List Itm} (hl : l.length ≤ 100000) : WfN (buildT l) ∧ items (buildT l) = l := by
  obtain ⟨h1, h2⟩ := build_ok l hl ((l.length + 7) / 8) (by omega)
  refine ⟨h1, h2.trans (List.take_of_length_le (by omega))⟩
end Go.Fr.D16
namespace Go.Fr.D16
open Go Go.Fr Go.Proofs
def zItm : Itm := (0, 0, (0, 0, 0, ()), 0, ByteArray.empty, ())
abbrev Plc := Int × Sm × Int × Unit
abbrev Pce := Int × Int × Unit
abbrev Wve := Option (Tre × Unit)
def reach (v bias e : Int) : Bool := decide (e > v) || (decide (bias = 0) && decide (e = v))
def sizeD (s : Sm) (dim : Int) : Int := if dim = 3 then s.1 else if dim = 0 then s.2.1.1 else if dim = 1 then s.2.1.2.1 else s.2.1.2.2.1
def findL (dim v bias : Int) : List Itm → Sm → Sm
  | [], s => s
  | i :: r, s => if reach v bias (sizeD (addS s (ofI i)) dim) = true then s else findL dim v bias r (addS s (ofI i))
def findK (dim v bias : Int) : List Nd → Sm → Sm × Nd
  | [], s => (s, .nil)
  | k :: r, s => if reach v bias (sizeD (addS s (sumOf k)) dim) = true then (s, k) else findK dim v bias r (addS s (sumOf k))
def findF (dim v bias : Int) : Nat → Nd → Sm → Int → Sm × Int
  | 0, _, s, vis => (s, vis)
  | n + 1, x, s, vis => match x with
    | .nil => (s, vis)
    | .leaf a => (findL dim v bias a.1 s, w64 (vis + 1))
    | .inner ks _ => findF dim v bias n (findK dim v bias ks s).2 (findK dim v bias ks s).1 (w64 (vis + 1))
def findP (t : Nd) (dim v bias : Int) : Plc := ((findF dim v bias 101 t zS 0).1.1, (findF dim v bias 101 t zS 0).1, (findF dim v bias 101 t zS 0).2, ())
def findT (t : Tre) (dim v bias : Int) : Plc × Int × Unit :=
  if dim < 0 ∨ dim > 3 ∨ v < 0 ∨ v > sizeD (sumOf (topT t)) dim ∨ (bias ≠ 0 ∧ bias ≠ 1) then ((0, zS, 0, ()), 1, ()) else (findP (topT t) dim v bias, 0, ())
def atT (t : Tre) (i : Int) : Itm × Int × Unit := if i < 0 ∨ i ≥ ((items (topT t)).length : Int) then (zItm, 1, ()) else ((items (topT t)).getD i.toNat zItm, 0, ())
def okIts (l : List Itm) : Prop := l.length ≤ 100000 ∧ ∀ x ∈ l, checkI x = 0
def okTre (t : Tre) : Prop := WfN (topT t) ∧ okIts (items (topT t))
def plainI (n : Int) : Itm := (0, 0, (n, n, 0, ()), 0, ByteArray.empty, ())
def virtualI (x : Inl) : Itm := (0, x.1, (0, ((decodeL (txt x)).length : Int), 0, ()), 0, ByteArray.empty, ())
def rowF (t : Int) : Int → List Inl → List Itm
  | f, [] => if t > f then [plainI (w64 (t - f))] else []
  | f, x :: r => if x.2.1 > f then plainI (w64 (x.2.1 - f)) :: virtualI x :: rowF t x.2.1 r else virtualI x :: rowF t f r
def weaveI (s : Option ISet) : Wve := some ((newT (rowF (lenI s) 0 (allI s))).1, ())
def treeOf (w : Wve) : Tre := match w with | none => none | some w => w.1
def outW (w : Wve) (at_ bias : Int) : Int × Int × Unit :=
  if (findT (treeOf w) 0 at_ bias).2.1 ≠ 0 then (0, (findT (treeOf w) 0 at_ bias).2.1, ())
  else (w64 (w64 ((findT (treeOf w) 0 at_ bias).1.2.1.2.1.2.1 + at_) - (findT (treeOf w) 0 at_ bias).1.2.1.2.1.1), 0, ())
def lenT (x : Inl) : Int := ((decodeL (txt x)).length : Int)
def refOut (w : WSet) (at_ bias : Int) : Int := (w.2.1).foldl (fun n x => if x.2.1 < at_ ∨ (x.2.1 = at_ ∧ bias = 1) then w64 (n + lenT x) else n) at_
def fitsW (s : Span) (n : Int) : Bool := decide (0 ≤ s.1) && decide (s.1 ≤ s.2.1) && decide (s.2.1 ≤ n)
def cSizeD : Contract := { arg := .pair t39 (.pair t3 .unit), res := t3, one := true, pre := fun x => (0 : Int) ≤ x.2.1 ∧ x.2.1 ≤ (3 : Int), fn := fun x => sizeD x.1 x.2.1 }
def cFind : Contract := { arg := .pair t43 (.pair t3 (.pair t3 (.pair t3 .unit))), res := .pair t41 (.pair t23 .unit), one := false, pre := fun x => WfN (topT x.1), fn := fun x => findT x.1 x.2.1 x.2.2.1 x.2.2.2.1 }
def cAt : Contract := { arg := .pair t43 (.pair t3 .unit), res := .pair t47 (.pair t23 .unit), one := false, pre := fun x => okTre x.1, fn := fun x => atT x.1 x.2.1 }
def cPlain : Contract := { arg := .pair t3 .unit, res := t47, one := true, pre := fun _ => True, fn := fun x => plainI x.1 }
def cVirtual : Contract := { arg := .pair t105 .unit, res := t47, one := true, pre := fun x => (txt x.1).size ≤ maxLen, fn := fun x => virtualI x.1 }
def cRow : Contract := { arg := .pair t3 (.pair t3 (.pair t100 .unit)), res := t61, one := true, pre := fun x => x.2.2.1.length ≤ 10000 ∧ shortL x.2.2.1, fn := fun x => rowF x.2.1 x.1 x.2.2.1 }
def cWeave : Contract := { arg := .pair t69 .unit, res := t50, one := true, pre := fun x => (allI x.1).length ≤ 10000 ∧ shortL (allI x.1), fn := fun x => weaveI x.1 }
def cTreeOf : Contract := { arg := .pair t50 .unit, res := t43, one := true, pre := fun _ => True, fn := fun x => treeOf x.1 }
def cSizes : Contract := { arg := .pair t50 .unit, res := .pair t3 (.pair t3 .unit), one := false, pre := fun _ => True, fn := fun x => ((sumOf (topT (treeOf x.1))).2.1.1, (sumOf (topT (treeOf x.1))).2.1.2.1, ()) }
def cOut : Contract := { arg := .pair t50 (.pair t3 (.pair t3 .unit)), res := .pair t3 (.pair t23 .unit), one := false, pre := fun x => WfN (topT (treeOf x.1)), fn := fun x => outW x.1 x.2.1 x.2.2.1 }
def cFits : Contract := { arg := .pair t29 (.pair t3 .unit), res := .bool, one := true, pre := fun _ => True, fn := fun x => fitsW x.1 x.2.1 }
def muSplit (x : Nd × Int × Unit) : Nat := (heightOf x.1).toNat
def spK : List Nd → Nat → Int → Option (Nat × Int)
  | [], _, _ => none
  | k :: r, i, a => if a ≤ (sumOf k).1 then some (i, a) else spK r (i + 1) (w64 (a - (sumOf k).1))
def splitF : Nat → Nd → Int → Nd × Nd
  | 0, _, _ => (.nil, .nil)
  | m + 1, n, a => match n with
    | .nil => (.nil, .nil)
    | .leaf x => if a ≤ 0 then (.nil, .leaf x) else if a ≥ (x.1.length : Int) then (.leaf x, .nil) else (mkLeaf (x.1.take a.toNat), mkLeaf (x.1.drop a.toNat))
    | .inner ks b => match spK ks 0 a with
      | none => (.inner ks b, .nil)
      | some q => (join (rowN (ks.take q.1)) (splitF m (ks.getD q.1 .nil) q.2).1, join (splitF m (ks.getD q.1 .nil) q.2).2 (rowN (ks.drop (q.1 + 1))))
def splitN (n : Nd) (a : Int) : Nd × Nd := splitF (heightOf n).toNat n a
def replN (n mid : Nd) (from_ to : Int) : Nd := join (join (splitN n from_).1 mid) (splitN (splitN n from_).2 (w64 (to - from_))).2
def replT (t : Tre) (from_ to : Int) (l : List Itm) : Tre × Int × Unit :=
  if from_ < 0 ∨ to < from_ ∨ to > (sumOf (topT t)).1 then (none, 1, ())
  else if (newT l).2.1 ≠ 0 then (none, (newT l).2.1, ())
  else if w64 (w64 ((sumOf (topT t)).1 - w64 (to - from_)) + (l.length : Int)) > 30000 then (none, 5, ())
  else (some (replN (topT t) (topT (newT l).1) from_ to, ()), 0, ())
def maxI (a b : Int) : Int := if a < b then b else a
def cSplit : Contract := { arg := .pair t75 (.pair t3 .unit), res := .pair t75 (.pair t75 .unit), one := false, pre := fun x => WfN x.1 ∧ okIts (items x.1), fn := fun x => ((splitN x.1 x.2.1).1, (splitN x.1 x.2.1).2, ()) }
def cReplace : Contract := { arg := .pair t43 (.pair t3 (.pair t3 (.pair t61 .unit))), res := .pair t43 (.pair t23 .unit), one := false, pre := fun x => okTre x.1 ∧ x.2.2.2.1.length ≤ 100000, fn := fun x => replT x.1 x.2.1 x.2.2.1 x.2.2.2.1 }
def fnVCat (E : Env) (fn : Func) (c : Code) (C : Contract) (x : C.arg.den) : Prop :=
  vc E (vcN E deep) bot (bot + fn.ntmps) c ⟨entrySlots C.arg x C.tail bot, [], []⟩ fun e σ => match e with
    | .normal => retVC E bot fn.results.toList C.one C.res σ (C.fn x)
    | .ret => retVC E bot fn.results.toList C.one C.res σ (C.fn x)
    | .exit _ => False
theorem fnVC_at {E : Env} {fn : Func} {c : Code} {C : Contract} (h : ∀ x, C.pre x → fnVCat E fn c C x) : fnVC E fn c C := h
end Go.Fr.D16
namespace Go.Fr.D16
open Go Go.Fr Go.Proofs
theorem getD_app_l {α : Type} {a b : List α} {i : Nat} (d : α) (h : i < a.length) : (a ++ b).getD i d = a.getD i d := by
  rw [List.getD_eq_getElem?_getD, List.getD_eq_getElem?_getD, List.getElem?_append_left h]
theorem getD_app_r {α : Type} {a b : List α} {i : Nat} (d : α) (h : a.length ≤ i) : (a ++ b).getD i d = b.getD (i - a.length) d := by
  rw [List.getD_eq_getElem?_getD, List.getD_eq_getElem?_getD, List.getElem?_append_right h]
theorem w64_id {n : Int} (h0 : -9223372036854775808 ≤ n) (h1 : n ≤ 9223372036854775807) : w64 n = n := wrap_id h0 h1
abbrev d0 (i : Itm) : Int := i.2.2.1.1
abbrev d1 (i : Itm) : Int := i.2.2.1.2.1
def Fine (l : List Itm) : Prop := ∀ i ∈ l, 0 ≤ d0 i ∧ d0 i ≤ 1099511627776 ∧ 0 ≤ d1 i ∧ d1 i ≤ 1099511627776
theorem fine_cons {i : Itm} {l : List Itm} (h : Fine (i :: l)) : (0 ≤ d0 i ∧ d0 i ≤ 1099511627776 ∧ 0 ≤ d1 i ∧ d1 i ≤ 1099511627776) ∧ Fine l :=
  ⟨h i (List.mem_cons_self ..), fun j hj => h j (List.mem_cons_of_mem _ hj)⟩
theorem fine_append {l m : List Itm} : Fine (l ++ m) ↔ Fine l ∧ Fine m := by
  unfold Fine
  constructor
  · intro h
    exact ⟨fun i hi => h i (List.mem_append_left _ hi), fun i hi => h i (List.mem_append_right _ hi)⟩
  · rintro ⟨h1, h2⟩ i hi
    rcases List.mem_append.1 hi with hi | hi
    · exact h1 i hi
    · exact h2 i hi
def sum0 (l : List Itm) : Int := (l.map d0).sum
def sum1 (l : List Itm) : Int := (l.map d1).sum
theorem sum0_cons (i : Itm) (l : List Itm) : sum0 (i :: l) = d0 i + sum0 l := by simp [sum0]
theorem sum1_cons (i : Itm) (l : List Itm) : sum1 (i :: l) = d1 i + sum1 l := by simp [sum1]
theorem sum0_append (l m : List Itm) : sum0 (l ++ m) = sum0 l + sum0 m := by simp [sum0]
theorem sum1_append (l m : List Itm) : sum1 (l ++ m) = sum1 l + sum1 m := by simp [sum1]
theorem sums_fine : {l : List Itm} → Fine l → 0 ≤ sum0 l ∧ sum0 l ≤ 1099511627776 * (l.length : Int) ∧ 0 ≤ sum1 l ∧ sum1 l ≤ 1099511627776 * (l.length : Int)
  | [], _ => by simp [sum0, sum1]
  | i :: l, h => by
    obtain ⟨h1, h2⟩ := fine_cons h
    have := sums_fine h2
    rw [sum0_cons, sum1_cons, List.length_cons]
    omega
def Is (s : Sm) (k b c : Int) : Prop := s.1 = k ∧ s.2.1.1 = b ∧ s.2.1.2.1 = c
theorem addS_is {s t : Sm} {k b c k' b' c' : Int} (h : Is s k b c) (g : Is t k' b' c') (h0 : 0 ≤ k) (h1 : 0 ≤ b) (h2 : 0 ≤ c) (g0 : 0 ≤ k') (g1 : 0 ≤ b') (g2 : 0 ≤ c')
    (e0 : k + k' ≤ 9223372036854775807) (e1 : b + b' ≤ 9223372036854775807) (e2 : c + c' ≤ 9223372036854775807) : Is (addS s t) (k + k') (b + b') (c + c') := by
  obtain ⟨rfl, rfl, rfl⟩ := h
  obtain ⟨rfl, rfl, rfl⟩ := g
  unfold addS
  split
  · exact ⟨w64_id (by omega) e0, w64_id (by omega) e1, w64_id (by omega) e2⟩
  · exact ⟨w64_id (by omega) e0, w64_id (by omega) e1, w64_id (by omega) e2⟩
theorem is_z : Is zS 0 0 0 := ⟨rfl, rfl, rfl⟩
theorem is_of (i : Itm) : Is (ofI i) 1 (d0 i) (d1 i) := ⟨rfl, rfl, rfl⟩
theorem fold_is : (l : List Itm) → (s : Sm) → (k b c : Int) → Fine l → Is s k b c → 0 ≤ k → 0 ≤ b → 0 ≤ c → k + (l.length : Int) ≤ 1000000 → b + 1099511627776 * (l.length : Int) ≤ 9223372036854775807 → c + 1099511627776 * (l.length : Int) ≤ 9223372036854775807 →
    Is (l.foldl (fun s x => addS s (ofI x)) s) (k + (l.length : Int)) (b + sum0 l) (c + sum1 l)
  | [], s, k, b, c, _, h, _, _, _, _, _, _ => by simpa [sum0, sum1] using h
  | i :: l, s, k, b, c, hf, h, h0, h1, h2, e0, e1, e2 => by
    obtain ⟨f1, f2⟩ := fine_cons hf
    rw [List.length_cons] at e0 e1 e2 ⊢
    have a := addS_is h (is_of i) h0 h1 h2 (by omega) f1.1 f1.2.2.1 (by omega) (by omega) (by omega)
    have ih := fold_is l _ _ _ _ f2 a (by omega) (by omega) (by omega) (by omega) (by omega) (by omega)
    rw [sum0_cons, sum1_cons]
    have q0 : k + ((l.length + 1 : Nat) : Int) = k + 1 + (l.length : Int) := by omega
    have q1 : b + (d0 i + sum0 l) = b + d0 i + sum0 l := by omega
    have q2 : c + (d1 i + sum1 l) = c + d1 i + sum1 l := by omega
    rw [q0, q1, q2]
    exact ih
theorem allS_is {l : List Itm} (hf : Fine l) (hl : l.length ≤ 100000) : Is (allS l) (l.length : Int) (sum0 l) (sum1 l) := by
  have := fold_is l zS 0 0 0 hf is_z (by omega) (by omega) (by omega) (by omega) (by omega) (by omega)
  simpa [allS] using this
def findC (dim v bias : Int) : List Itm → Int → Int → Int → Int × Int × Int
  | [], k, b, c => (k, b, c)
  | i :: r, k, b, c => if reach v bias (if dim = 0 then b + d0 i else c + d1 i) = true then (k, b, c) else findC dim v bias r (k + 1) (b + d0 i) (c + d1 i)
theorem size_is {s : Sm} {k b c dim : Int} (h : Is s k b c) (hd : dim = 0 ∨ dim = 1) : sizeD s dim = if dim = 0 then b else c := by
  obtain ⟨rfl, rfl, rfl⟩ := h
  unfold sizeD
  rcases hd with rfl | rfl <;> rfl
theorem findL_is {dim v bias : Int} (hd : dim = 0 ∨ dim = 1) : (l : List Itm) → (s : Sm) → (k b c : Int) → Fine l → Is s k b c → 0 ≤ k → 0 ≤ b → 0 ≤ c → k + (l.length : Int) ≤ 1000000 → b + 1099511627776 * (l.length : Int) ≤ 9223372036854775807 → c + 1099511627776 * (l.length : Int) ≤ 9223372036854775807 →
    Is (findL dim v bias l s) (findC dim v bias l k b c).1 (findC dim v bias l k b c).2.1 (findC dim v bias l k b c).2.2
  | [], s, k, b, c, _, h, _, _, _, _, _, _ => h
  | i :: l, s, k, b, c, hf, h, h0, h1, h2, e0, e1, e2 => by
    obtain ⟨f1, f2⟩ := fine_cons hf
    rw [List.length_cons] at e0 e1 e2
    have a := addS_is h (is_of i) h0 h1 h2 (by omega) f1.1 f1.2.2.1 (by omega) (by omega) (by omega)
    have ih := findL_is (v := v) (bias := bias) hd l _ _ _ _ f2 a (by omega) (by omega) (by omega) (by omega) (by omega) (by omega)
    unfold findL findC
    rw [size_is a hd]
    cases hr : reach v bias (if dim = 0 then b + d0 i else c + d1 i) with
    | true => exact h
    | false => exact ih
theorem reach_mono {v bias e e' : Int} (h : e ≤ e') (hr : reach v bias e = true) : reach v bias e' = true := by
  unfold reach at hr ⊢
  simp at hr ⊢
  omega
theorem at_dim {dim b c b' c' : Int} (hb : b ≤ b') (hc : c ≤ c') : (if dim = 0 then b else c) ≤ (if dim = 0 then b' else c') := by
  split
  · exact hb
  · exact hc
theorem findC_pass {dim v bias : Int} : (l m : List Itm) → (k b c : Int) → Fine l → reach v bias (if dim = 0 then b + sum0 l else c + sum1 l) = false →
    findC dim v bias (l ++ m) k b c = findC dim v bias m (k + (l.length : Int)) (b + sum0 l) (c + sum1 l)
  | [], m, k, b, c, _, _ => by simp [sum0, sum1]
  | i :: l, m, k, b, c, hf, h => by
    obtain ⟨f1, f2⟩ := fine_cons hf
    have g := sums_fine f2
    rw [sum0_cons, sum1_cons] at h ⊢
    have hn : reach v bias (if dim = 0 then b + d0 i else c + d1 i) = false := by
      cases hr : reach v bias (if dim = 0 then b + d0 i else c + d1 i) with
      | false => rfl
      | true => rw [reach_mono (at_dim (by omega) (by omega)) hr] at h; cases h
    rw [List.cons_append]
    show (if _ then _ else _) = _
    rw [hn, if_neg (by decide)]
    have ih := findC_pass l m (k + 1) (b + d0 i) (c + d1 i) f2 (by rw [Int.add_assoc, Int.add_assoc]; exact h)
    rw [ih, List.length_cons]
    have q0 : k + 1 + (l.length : Int) = k + ((l.length + 1 : Nat) : Int) := by omega
    rw [q0, Int.add_assoc, Int.add_assoc]
theorem findC_in {dim v bias : Int} : (l m : List Itm) → (k b c : Int) → l ≠ [] → reach v bias (if dim = 0 then b + sum0 l else c + sum1 l) = true →
    findC dim v bias (l ++ m) k b c = findC dim v bias l k b c
  | [], m, k, b, c, hne, _ => absurd rfl hne
  | i :: l, m, k, b, c, _, h => by
    rw [sum0_cons, sum1_cons] at h
    rw [List.cons_append]
    show (if _ then _ else _) = (if _ then _ else _)
    cases hr : reach v bias (if dim = 0 then b + d0 i else c + d1 i) with
    | true => rfl
    | false =>
      rw [if_neg (by decide), if_neg (by decide)]
      by_cases hl : l = []
      · subst hl
        rw [show sum0 [] = 0 from rfl, show sum1 [] = 0 from rfl, Int.add_zero, Int.add_zero, hr] at h
        cases h
      · exact findC_in l m _ _ _ hl (by rw [Int.add_assoc, Int.add_assoc]; exact h)
def okPiece (i : Itm) : Prop := (i.2.1 = 0 ∧ d0 i = d1 i ∧ 1 ≤ d1 i ∧ d1 i ≤ 1099511627776) ∨ (1 ≤ i.2.1 ∧ d0 i = 0 ∧ 1 ≤ d1 i ∧ d1 i ≤ 1099511627776)
def Rowly : Int → List Itm → Prop
  | _, [] => True
  | p, i :: r => okPiece i ∧ i.2.1 ≠ p ∧ Rowly i.2.1 r
theorem rowly_fine : {p : Int} → {l : List Itm} → Rowly p l → Fine l
  | _, [], _ => fun i hi => by cases hi
  | _, i :: l, h => by
    have ih := rowly_fine h.2.2
    intro j hj
    rcases List.mem_cons.1 hj with e | hj
    · subst e
      rcases h.1 with h | h <;> omega
    · exact ih j hj
end Go.Fr.D16
namespace Go.Fr.D16
open Go Go.Fr Go.Proofs
def SumOk (n : Nd) : Prop := Is (sumOf n) ((items n).length : Int) (sum0 (items n)) (sum1 (items n))
theorem flat_cons (k : Nd) (r : List Nd) : (k :: r).flatMap items = items k ++ r.flatMap items := rfl
theorem kids_fold : (ks : List Nd) → (s : Sm) → (k b c : Int) → (∀ x ∈ ks, SumOk x) → Fine (ks.flatMap items) → Is s k b c → 0 ≤ k → 0 ≤ b → 0 ≤ c → k + ((ks.flatMap items).length : Int) ≤ 1000000 → b + 1099511627776 * ((ks.flatMap items).length : Int) ≤ 9223372036854775807 → c + 1099511627776 * ((ks.flatMap items).length : Int) ≤ 9223372036854775807 →
    Is (ks.foldl (fun s k => addS s (sumOf k)) s) (k + ((ks.flatMap items).length : Int)) (b + sum0 (ks.flatMap items)) (c + sum1 (ks.flatMap items))
  | [], s, k, b, c, _, _, h, _, _, _, _, _, _ => by simpa [sum0, sum1] using h
  | x :: r, s, k, b, c, hs, hf, h, h0, h1, h2, e0, e1, e2 => by
    rw [flat_cons] at hf e0 e1 e2 ⊢
    obtain ⟨f1, f2⟩ := fine_append.1 hf
    have b1 := sums_fine f1
    have b2 := sums_fine f2
    rw [List.length_append] at e0 e1 e2 ⊢
    rw [sum0_append, sum1_append]
    have a := addS_is h (hs x (List.mem_cons_self ..)) h0 h1 h2 (by omega) (by omega) (by omega) (by omega) (by omega) (by omega)
    have ih := kids_fold r _ _ _ _ (fun y hy => hs y (List.mem_cons_of_mem _ hy)) f2 a (by omega) (by omega) (by omega) (by omega) (by omega) (by omega)
    have q0 : k + (((items x).length + (r.flatMap items).length : Nat) : Int) = k + ((items x).length : Int) + ((r.flatMap items).length : Int) := by omega
    have q1 : b + (sum0 (items x) + sum0 (r.flatMap items)) = b + sum0 (items x) + sum0 (r.flatMap items) := by omega
    have q2 : c + (sum1 (items x) + sum1 (r.flatMap items)) = c + sum1 (items x) + sum1 (r.flatMap items) := by omega
    rw [q0, q1, q2]
    exact ih
theorem fine_mem {ks : List Nd} (h : Fine (ks.flatMap items)) {k : Nd} (hk : k ∈ ks) : Fine (items k) := fun i hi => h i (List.mem_flatMap.2 ⟨k, hk, hi⟩)
theorem len_mem {ks : List Nd} {k : Nd} (hk : k ∈ ks) : (items k).length ≤ (ks.flatMap items).length := by
  induction ks with
  | nil => cases hk
  | cons x r ih =>
    rw [flat_cons, List.length_append]
    rcases List.mem_cons.1 hk with e | hk
    · subst e; omega
    · have := ih hk; omega
theorem sum_wf : (h : Nat) → (top : Bool) → (n : Nd) → h ≤ 100 → Wf h top n → Fine (items n) → (items n).length ≤ 100000 → SumOk n
  | 0, _, _, _, e, _, _ => e.elim
  | _ + 1, _, .nil, _, e, _, _ => e.elim
  | h + 1, _, .leaf a, _, e, hf, hl => by
    have e4 : a.2.1 = allS a.1 := e.2.2.2
    show Is a.2.1 (a.1.length : Int) (sum0 a.1) (sum1 a.1)
    rw [e4]
    exact allS_is hf hl
  | h + 1, top, .inner ks b, hh, e, hf, hl => by
    have ei := items_inner e (by omega)
    obtain ⟨w1, w2, w3, w4, w5, w6⟩ := e
    unfold SumOk
    rw [ei] at hf hl ⊢
    show Is b.2.1 _ _ _
    rw [w5]
    have := kids_fold ks zS 0 0 0 (fun k hk => sum_wf h false k (by omega) (w6 k hk) (fine_mem hf hk) (Nat.le_trans (len_mem hk) hl)) hf is_z (by omega) (by omega) (by omega) (by omega) (by omega) (by omega)
    simpa [sums] using this
theorem findC_nil (dim v bias k b c : Int) : findC dim v bias [] k b c = (k, b, c) := rfl
theorem findK_is {dim v bias : Int} (hd : dim = 0 ∨ dim = 1) : (ks : List Nd) → (s : Sm) → (k b c : Int) → (∀ x ∈ ks, SumOk x) → (∀ x ∈ ks, items x ≠ []) → Fine (ks.flatMap items) → Is s k b c → 0 ≤ k → 0 ≤ b → 0 ≤ c → k + ((ks.flatMap items).length : Int) ≤ 1000000 → b + 1099511627776 * ((ks.flatMap items).length : Int) ≤ 9223372036854775807 → c + 1099511627776 * ((ks.flatMap items).length : Int) ≤ 9223372036854775807 →
    ((findK dim v bias ks s).2 = .nil ∧ Is (findK dim v bias ks s).1 (findC dim v bias (ks.flatMap items) k b c).1 (findC dim v bias (ks.flatMap items) k b c).2.1 (findC dim v bias (ks.flatMap items) k b c).2.2) ∨
    ((findK dim v bias ks s).2 ∈ ks ∧ ∃ k' b' c', Is (findK dim v bias ks s).1 k' b' c' ∧ findC dim v bias (ks.flatMap items) k b c = findC dim v bias (items (findK dim v bias ks s).2) k' b' c' ∧ 0 ≤ k' ∧ 0 ≤ b' ∧ 0 ≤ c' ∧
      k' + ((items (findK dim v bias ks s).2).length : Int) ≤ 1000000 ∧ b' + 1099511627776 * ((items (findK dim v bias ks s).2).length : Int) ≤ 9223372036854775807 ∧ c' + 1099511627776 * ((items (findK dim v bias ks s).2).length : Int) ≤ 9223372036854775807)
  | [], s, k, b, c, _, _, _, h, _, _, _, _, _, _ => .inl ⟨rfl, h⟩
  | x :: r, s, k, b, c, hs, hne, hf, h, h0, h1, h2, e0, e1, e2 => by
    rw [flat_cons] at hf e0 e1 e2 ⊢
    obtain ⟨f1, f2⟩ := fine_append.1 hf
    have b1 := sums_fine f1
    have b2 := sums_fine f2
    rw [List.length_append] at e0 e1 e2
    have a := addS_is h (hs x (List.mem_cons_self ..)) h0 h1 h2 (by omega) (by omega) (by omega) (by omega) (by omega) (by omega)
    have e : findK dim v bias (x :: r) s = if reach v bias (sizeD (addS s (sumOf x)) dim) = true then (s, x) else findK dim v bias r (addS s (sumOf x)) := rfl
    rw [e, size_is a hd]
    cases hr : reach v bias (if dim = 0 then b + sum0 (items x) else c + sum1 (items x)) with
    | true =>
      rw [if_pos rfl]
      refine .inr ⟨List.mem_cons_self .., k, b, c, h, findC_in _ _ _ _ _ (hne x (List.mem_cons_self ..)) hr, h0, h1, h2, ?_, ?_, ?_⟩
      · show k + ((items x).length : Int) ≤ _; omega
      · show b + 1099511627776 * ((items x).length : Int) ≤ _; omega
      · show c + 1099511627776 * ((items x).length : Int) ≤ _; omega
    | false =>
      rw [if_neg (by decide), findC_pass _ _ _ _ _ f1 hr]
      have ih := findK_is (v := v) (bias := bias) hd r _ _ _ _ (fun y hy => hs y (List.mem_cons_of_mem _ hy)) (fun y hy => hne y (List.mem_cons_of_mem _ hy)) f2 a (by omega) (by omega) (by omega) (by omega) (by omega) (by omega)
      rcases ih with ih | ⟨i1, i2⟩
      · exact .inl ih
      · exact .inr ⟨List.mem_cons_of_mem _ i1, i2⟩
theorem findF_nil (dim v bias : Int) (m : Nat) (s : Sm) (vis : Int) : (findF dim v bias m .nil s vis).1 = s := by
  cases m <;> rfl
theorem items_ne {h : Nat} {n : Nd} (hh : h ≤ 100) (e : Wf h false n) : items n ≠ [] := fun e0 => by
  have := count_full h n hh e
  rw [e0] at this
  have h5 : 0 < 4 ^ h := Nat.pow_pos (by omega)
  simp at this
theorem findF_is {dim v bias : Int} (hd : dim = 0 ∨ dim = 1) : (m h : Nat) → (top : Bool) → (n : Nd) → (s : Sm) → (vis k b c : Int) → h ≤ 100 → h ≤ m → Wf h top n → Fine (items n) → (items n).length ≤ 100000 → Is s k b c → 0 ≤ k → 0 ≤ b → 0 ≤ c → k + ((items n).length : Int) ≤ 1000000 → b + 1099511627776 * ((items n).length : Int) ≤ 9223372036854775807 → c + 1099511627776 * ((items n).length : Int) ≤ 9223372036854775807 →
    Is (findF dim v bias m n s vis).1 (findC dim v bias (items n) k b c).1 (findC dim v bias (items n) k b c).2.1 (findC dim v bias (items n) k b c).2.2
  | 0, h, _, n, _, _, _, _, _, _, hm, e, _, _, _, _, _, _, _, _, _ => by
    have : h = 0 := by omega
    subst this
    exact e.elim
  | m + 1, 0, _, _, _, _, _, _, _, _, _, e, _, _, _, _, _, _, _, _, _ => e.elim
  | m + 1, h + 1, _, .nil, _, _, _, _, _, _, _, e, _, _, _, _, _, _, _, _, _ => e.elim
  | m + 1, h + 1, _, .leaf a, s, vis, k, b, c, hh, hm, e, hf, hl, hs, h0, h1, h2, e0, e1, e2 => by
    show Is (findL dim v bias a.1 s) _ _ _
    exact findL_is hd a.1 s k b c hf hs h0 h1 h2 e0 e1 e2
  | m + 1, h + 1, top, .inner ks bx, s, vis, k, b, c, hh, hm, e, hf, hl, hs, h0, h1, h2, e0, e1, e2 => by
    have ei := items_inner e (by omega)
    rw [ei] at hf hl e0 e1 e2 ⊢
    obtain ⟨w1, w2, w3, w4, w5, w6⟩ := e
    have so : ∀ x ∈ ks, SumOk x := fun x hx => sum_wf h false x (by omega) (w6 x hx) (fine_mem hf hx) (Nat.le_trans (len_mem hx) hl)
    show Is (findF dim v bias m (findK dim v bias ks s).2 (findK dim v bias ks s).1 (w64 (vis + 1))).1 _ _ _
    rcases findK_is hd ks s k b c so (fun x hx => items_ne (by omega) (w6 x hx)) hf hs h0 h1 h2 e0 e1 e2 with ⟨g1, g2⟩ | ⟨g1, k', b', c', g2, g3, g4, g5, g6, g7, g8, g9⟩
    · rw [g1, findF_nil]
      exact g2
    · rw [g3]
      exact findF_is hd m h false _ _ _ k' b' c' (by omega) (by omega) (w6 _ g1) (fine_mem hf g1) (Nat.le_trans (len_mem g1) hl) g2 g4 g5 g6 g7 g8 g9
theorem sum_top {n : Nd} (hw : WfN n) (hf : Fine (items n)) (hl : (items n).length ≤ 100000) : SumOk n := by
  rcases hw with rfl | ⟨h, h1, w⟩
  · exact is_z
  · exact sum_wf h true n h1 w hf hl
theorem findP_is {dim v bias : Int} (hd : dim = 0 ∨ dim = 1) {n : Nd} (hw : WfN n) (hf : Fine (items n)) (hl : (items n).length ≤ 100000) :
    (findP n dim v bias).1 = (findC dim v bias (items n) 0 0 0).1 ∧ (findP n dim v bias).2.1.2.1.1 = (findC dim v bias (items n) 0 0 0).2.1 ∧ (findP n dim v bias).2.1.2.1.2.1 = (findC dim v bias (items n) 0 0 0).2.2 := by
  have : Is (findF dim v bias 101 n zS 0).1 (findC dim v bias (items n) 0 0 0).1 (findC dim v bias (items n) 0 0 0).2.1 (findC dim v bias (items n) 0 0 0).2.2 := by
    rcases hw with rfl | ⟨h, h1, w⟩
    · rw [findF_nil, items_nil, findC_nil]
      exact is_z
    · exact findF_is hd 101 h true n zS 0 0 0 0 h1 (by omega) w hf hl is_z (by omega) (by omega) (by omega) (by omega) (by omega) (by omega)
  exact this
end Go.Fr.D16
namespace Go.Fr.D16
open Go Go.Fr Go.Proofs
def rowP (t : Int) : Int → List Inl → List Itm
  | f, [] => if t > f then [plainI (t - f)] else []
  | f, x :: r => if x.2.1 > f then plainI (x.2.1 - f) :: virtualI x :: rowP t x.2.1 r else virtualI x :: rowP t f r
def Inls (f t : Int) (l : List Inl) : Prop := (∀ x ∈ l, f ≤ x.2.1 ∧ x.2.1 ≤ t ∧ 1 ≤ x.1 ∧ 1 ≤ lenT x ∧ lenT x ≤ 1000) ∧ l.Pairwise (fun a b => a.2.1 ≤ b.2.1) ∧ l.Pairwise (fun a b => a.1 ≠ b.1)
theorem inls_cons {f t : Int} {x : Inl} {r : List Inl} (h : Inls f t (x :: r)) : (f ≤ x.2.1 ∧ x.2.1 ≤ t ∧ 1 ≤ x.1 ∧ 1 ≤ lenT x ∧ lenT x ≤ 1000) ∧ Inls x.2.1 t r ∧ (∀ y ∈ r, y.1 ≠ x.1) := by
  obtain ⟨h1, h2, h3⟩ := h
  obtain ⟨p1, p2⟩ := List.pairwise_cons.1 h2
  obtain ⟨q1, q2⟩ := List.pairwise_cons.1 h3
  exact ⟨h1 x (List.mem_cons_self ..), ⟨fun y hy => ⟨p1 y hy, (h1 y (List.mem_cons_of_mem _ hy)).2⟩, p2, q2⟩, fun y hy e => q1 y hy e.symm⟩
theorem inls_less {f g t : Int} {l : List Inl} (h : Inls f t l) (hg : g ≤ f) : Inls g t l :=
  ⟨fun x hx => by have := h.1 x hx; exact ⟨by omega, this.2⟩, h.2⟩
theorem rowF_eq {t : Int} (ht : t ≤ 1099511627776) : (f : Int) → (l : List Inl) → 0 ≤ f → f ≤ t → Inls f t l → rowF t f l = rowP t f l
  | f, [], h0, h1, _ => by
    unfold rowF rowP
    rw [w64_id (by omega) (by omega)]
  | f, x :: r, h0, h1, h => by
    obtain ⟨i1, i2, _⟩ := inls_cons h
    unfold rowF rowP
    rw [w64_id (by omega) (by omega), rowF_eq ht x.2.1 r (by omega) i1.2.1 i2]
    by_cases hx : x.2.1 > f
    · rw [if_pos hx, if_pos hx]
    · rw [if_neg hx, if_neg hx]
      have e : f = x.2.1 := by omega
      rw [rowF_eq ht f r h0 h1 (inls_less i2 (by omega))]
theorem plain_ok {n : Int} (h : 1 ≤ n) (h1 : n ≤ 1099511627776) : okPiece (plainI n) := .inl ⟨rfl, rfl, h, h1⟩
theorem virtual_ok {x : Inl} (h : 1 ≤ x.1) (h1 : 1 ≤ lenT x) (h2 : lenT x ≤ 1000) : okPiece (virtualI x) := .inr ⟨h, rfl, h1, by show lenT x ≤ _; omega⟩
theorem rowP_rowly {t : Int} (ht : t ≤ 1099511627776) : (p f : Int) → (l : List Inl) → 0 ≤ f → f ≤ t → Inls f t l → p ≠ 0 → (∀ x ∈ l, x.1 ≠ p) → Rowly p (rowP t f l)
  | p, f, [], h0, h1, _, hp, _ => by
    unfold rowP
    by_cases ht' : t > f
    · rw [if_pos ht']
      exact ⟨plain_ok (by omega) (by omega), fun e => hp e.symm, trivial⟩
    · rw [if_neg ht']
      trivial
  | p, f, x :: r, h0, h1, h, hp, hn => by
    obtain ⟨i1, i2, i3⟩ := inls_cons h
    unfold rowP
    have vo := virtual_ok i1.2.2.1 i1.2.2.2.1 i1.2.2.2.2
    by_cases hx : x.2.1 > f
    · rw [if_pos hx]
      exact ⟨plain_ok (by omega) (by omega), fun e => hp e.symm, vo, fun e => by have : x.1 = 0 := e; omega, rowP_rowly ht x.1 x.2.1 r (by omega) i1.2.1 i2 (by omega) i3⟩
    · rw [if_neg hx]
      exact ⟨vo, hn x (List.mem_cons_self ..), rowP_rowly ht x.1 f r h0 h1 (inls_less i2 (by omega)) (by omega) i3⟩
def lens (l : List Inl) : Int := (l.map lenT).sum
theorem lens_cons (x : Inl) (r : List Inl) : lens (x :: r) = lenT x + lens r := by simp [lens]
theorem row_sums {t : Int} : (f : Int) → (l : List Inl) → f ≤ t → Inls f t l → sum0 (rowP t f l) = t - f ∧ sum1 (rowP t f l) = t - f + lens l
  | f, [], h1, _ => by
    unfold rowP
    by_cases ht : t > f
    · rw [if_pos ht]
      rw [sum0_cons, sum1_cons]
      exact ⟨by show t - f + 0 = _; omega, by show t - f + 0 = _; simp [lens]⟩
    · rw [if_neg ht]
      exact ⟨by show (0 : Int) = _; omega, by show (0 : Int) = _; simp [lens]; omega⟩
  | f, x :: r, h1, h => by
    obtain ⟨i1, i2, i3⟩ := inls_cons h
    unfold rowP
    obtain ⟨s0, s1⟩ := row_sums x.2.1 r i1.2.1 i2
    by_cases hx : x.2.1 > f
    · rw [if_pos hx, sum0_cons, sum1_cons, sum0_cons, sum1_cons, s0, s1, lens_cons]
      exact ⟨by show x.2.1 - f + (0 + _) = _; omega, by show x.2.1 - f + (lenT x + _) = _; omega⟩
    · rw [if_neg hx]
      have e : f = x.2.1 := by omega
      rw [e, sum0_cons, sum1_cons, s0, s1, lens_cons]
      exact ⟨by show 0 + _ = _; omega, by show lenT x + _ = _; omega⟩
theorem row_len {t : Int} : (f : Int) → (l : List Inl) → (rowP t f l).length ≤ 2 * l.length + 1
  | f, [] => by
    unfold rowP
    split <;> simp
  | f, x :: r => by
    unfold rowP
    split
    · have := row_len (t := t) x.2.1 r
      simp; omega
    · have := row_len (t := t) f r
      simp; omega
def isAhead (at_ bias : Int) (x : Inl) : Prop := x.2.1 < at_ ∨ (x.2.1 = at_ ∧ bias = 1)
instance (at_ bias : Int) (x : Inl) : Decidable (isAhead at_ bias x) := by unfold isAhead; infer_instance
def lensA (at_ bias : Int) : List Inl → Int
  | [] => 0
  | x :: r => (if isAhead at_ bias x then lenT x else 0) + lensA at_ bias r
theorem lensA_none {at_ bias : Int} {l : List Inl} (h : ∀ x ∈ l, ¬ isAhead at_ bias x) : lensA at_ bias l = 0 := by
  induction l with
  | nil => rfl
  | cons x r ih =>
    show (if isAhead at_ bias x then lenT x else 0) + lensA at_ bias r = _
    rw [if_neg (h x (List.mem_cons_self ..)), ih fun y hy => h y (List.mem_cons_of_mem _ hy)]
    rfl
theorem lenT_nn (x : Inl) : 0 ≤ lenT x := Int.natCast_nonneg _
theorem lensA_le (at_ bias : Int) (l : List Inl) : lensA at_ bias l ≤ lens l := by
  induction l with
  | nil => exact Int.le_refl _
  | cons x r ih =>
    rw [lens_cons]
    show (if isAhead at_ bias x then lenT x else 0) + lensA at_ bias r ≤ _
    have := lenT_nn x
    split <;> omega
theorem lensA_mono {a b c d : Int} {l : List Inl} (h : ∀ x ∈ l, isAhead a b x → isAhead c d x) : lensA a b l ≤ lensA c d l := by
  induction l with
  | nil => exact Int.le_refl _
  | cons x r ih =>
    have := ih fun y hy => h y (List.mem_cons_of_mem _ hy)
    have hx := h x (List.mem_cons_self ..)
    have := lenT_nn x
    show (if isAhead a b x then lenT x else 0) + lensA a b r ≤ (if isAhead c d x then lenT x else 0) + lensA c d r
    by_cases h1 : isAhead a b x
    · rw [if_pos h1, if_pos (hx h1)]; omega
    · rw [if_neg h1]
      split <;> omega
theorem lens_bd {l : List Inl} (h : ∀ x ∈ l, lenT x ≤ 1000) : 0 ≤ lens l ∧ lens l ≤ 1000 * (l.length : Int) := by
  induction l with
  | nil => simp [lens]
  | cons x r ih =>
    have := ih fun y hy => h y (List.mem_cons_of_mem _ hy)
    have := h x (List.mem_cons_self ..)
    have := lenT_nn x
    rw [lens_cons, List.length_cons]
    omega
theorem refOut_fold {at_ bias : Int} : (l : List Inl) → (n : Int) → 0 ≤ n → (∀ x ∈ l, lenT x ≤ 1000) → n + 1000 * (l.length : Int) ≤ 9000000000000000000 →
    l.foldl (fun n x => if x.2.1 < at_ ∨ (x.2.1 = at_ ∧ bias = 1) then w64 (n + lenT x) else n) n = n + lensA at_ bias l
  | [], n, _, _, _ => by simp [lensA]
  | x :: r, n, h0, h, hb => by
    have hx := h x (List.mem_cons_self ..)
    have hn := lenT_nn x
    rw [List.length_cons] at hb
    rw [List.foldl_cons]
    show _ = n + ((if x.2.1 < at_ ∨ (x.2.1 = at_ ∧ bias = 1) then lenT x else 0) + lensA at_ bias r)
    by_cases hc : x.2.1 < at_ ∨ (x.2.1 = at_ ∧ bias = 1)
    · rw [if_pos hc, if_pos hc, w64_id (by omega) (by omega), refOut_fold r _ (by omega) (fun y hy => h y (List.mem_cons_of_mem _ hy)) (by omega)]
      omega
    · rw [if_neg hc, if_neg hc, refOut_fold r _ h0 (fun y hy => h y (List.mem_cons_of_mem _ hy)) (by omega)]
      omega
theorem out_row {t v bias : Int} (hb : bias = 0 ∨ bias = 1) : (k f c : Int) → (l : List Inl) → f ≤ t → Inls f t l →
    (findC 0 v bias (rowP t f l) k f c).2.2 - (findC 0 v bias (rowP t f l) k f c).2.1 = c - f + lensA v bias l
  | k, f, c, [], h1, _ => by
    unfold rowP
    by_cases ht : t > f
    · rw [if_pos ht]
      show (if reach v bias (f + (t - f)) = true then (k, f, c) else (k + 1, f + (t - f), c + (t - f))).2.2 - (if reach v bias (f + (t - f)) = true then (k, f, c) else (k + 1, f + (t - f), c + (t - f))).2.1 = _
      split <;> (show _ = c - f + 0; simp only []; omega)
    · rw [if_neg ht]
      show c - f = c - f + 0
      omega
  | k, f, c, x :: r, h1, h => by
    obtain ⟨i1, i2, i3⟩ := inls_cons h
    have nr : ∀ e, e ≤ x.2.1 → reach v bias e = true → lensA v bias (x :: r) = 0 := fun e he hr => lensA_none fun y hy => by
      have hy' : x.2.1 ≤ y.2.1 := by
        rcases List.mem_cons.1 hy with e | hy
        · subst e; omega
        · exact (i2.1 y hy).1
      unfold reach at hr
      unfold isAhead
      simp at hr
      omega
    have go : ∀ k c, (findC 0 v bias (virtualI x :: rowP t x.2.1 r) k x.2.1 c).2.2 - (findC 0 v bias (virtualI x :: rowP t x.2.1 r) k x.2.1 c).2.1 = c - x.2.1 + lensA v bias (x :: r) := fun k c => by
      have e : findC 0 v bias (virtualI x :: rowP t x.2.1 r) k x.2.1 c = if reach v bias (x.2.1 + 0) = true then (k, x.2.1, c) else findC 0 v bias (rowP t x.2.1 r) (k + 1) (x.2.1 + 0) (c + lenT x) := rfl
      rw [e, Int.add_zero]
      by_cases hr : reach v bias x.2.1 = true
      · rw [if_pos hr, nr _ (Int.le_refl _) hr]
        show c - x.2.1 = _
        omega
      · rw [if_neg hr, out_row hb (k + 1) x.2.1 (c + lenT x) r i1.2.1 i2]
        show _ = c - x.2.1 + ((if isAhead v bias x then lenT x else 0) + lensA v bias r)
        rw [if_pos]
        · omega
        · unfold reach at hr
          unfold isAhead
          simp at hr
          omega
    unfold rowP
    by_cases hx : x.2.1 > f
    · rw [if_pos hx]
      have e : findC 0 v bias (plainI (x.2.1 - f) :: virtualI x :: rowP t x.2.1 r) k f c = if reach v bias (f + (x.2.1 - f)) = true then (k, f, c) else findC 0 v bias (virtualI x :: rowP t x.2.1 r) (k + 1) (f + (x.2.1 - f)) (c + (x.2.1 - f)) := rfl
      rw [e, show f + (x.2.1 - f) = x.2.1 by omega]
      by_cases hr : reach v bias x.2.1 = true
      · rw [if_pos hr, nr _ (Int.le_refl _) hr]
        show c - f = _
        omega
      · rw [if_neg hr, go]
        omega
    · rw [if_neg hx]
      have e : f = x.2.1 := by omega
      rw [e]
      exact go k c
end Go.Fr.D16
namespace Go.Fr.D16
open Go Go.Fr Go.Proofs
theorem findC_bd {dim v bias : Int} : (l : List Itm) → (k b c : Int) → Fine l → b ≤ (findC dim v bias l k b c).2.1 ∧ (findC dim v bias l k b c).2.1 ≤ b + sum0 l ∧ c ≤ (findC dim v bias l k b c).2.2 ∧ (findC dim v bias l k b c).2.2 ≤ c + sum1 l
  | [], k, b, c, _ => by
    rw [findC_nil]
    simp [sum0, sum1]
  | i :: l, k, b, c, hf => by
    obtain ⟨f1, f2⟩ := fine_cons hf
    have b2 := sums_fine f2
    have ih := findC_bd (dim := dim) (v := v) (bias := bias) l (k + 1) (b + d0 i) (c + d1 i) f2
    rw [sum0_cons, sum1_cons]
    have e : findC dim v bias (i :: l) k b c = if reach v bias (if dim = 0 then b + d0 i else c + d1 i) = true then (k, b, c) else findC dim v bias l (k + 1) (b + d0 i) (c + d1 i) := rfl
    rw [e]
    cases reach v bias (if dim = 0 then b + d0 i else c + d1 i) with
    | true =>
      show b ≤ b ∧ b ≤ b + (d0 i + sum0 l) ∧ c ≤ c ∧ c ≤ c + (d1 i + sum1 l)
      omega
    | false =>
      rw [if_neg (by decide)]
      omega
theorem check_plain {n : Int} (h0 : 0 ≤ n) (h1 : n ≤ 1099511627776) : checkI (plainI n) = 0 := by
  unfold checkI
  rw [if_pos]
  show (withinN 0 && withinN n && withinN n && withinN 0) = true
  simp [withinN, h0, h1]
theorem check_virtual {x : Inl} (h : lenT x ≤ 1000) : checkI (virtualI x) = 0 := by
  have := lenT_nn x
  unfold checkI
  rw [if_pos]
  show (withinN 0 && withinN 0 && withinN (lenT x) && withinN 0) = true
  simp [withinN]
  omega
theorem row_check {t : Int} (ht : t ≤ 1099511627776) : (f : Int) → (l : List Inl) → 0 ≤ f → Inls f t l → ∀ i ∈ rowP t f l, checkI i = 0
  | f, [], h0, _ => by
    unfold rowP
    split
    · intro i hi
      rw [List.mem_singleton.1 hi]
      exact check_plain (by omega) (by omega)
    · intro i hi
      cases hi
  | f, x :: r, h0, h => by
    obtain ⟨i1, i2, i3⟩ := inls_cons h
    have cv := check_virtual i1.2.2.2.2
    have ih := row_check ht x.2.1 r (by omega) i2
    unfold rowP
    by_cases hx : x.2.1 > f
    · rw [if_pos hx]
      intro i hi
      rcases List.mem_cons.1 hi with e | hi
      · subst e; exact check_plain (by omega) (by omega)
      · rcases List.mem_cons.1 hi with e | hi
        · subst e; exact cv
        · exact ih i hi
    · rw [if_neg hx]
      have e : f = x.2.1 := by omega
      rw [e]
      intro i hi
      rcases List.mem_cons.1 hi with e | hi
      · subst e; exact cv
      · exact ih i hi
theorem weave_ok {n : Int} {L : List Inl} (h0 : 0 ≤ n) (h1 : n ≤ 1099511627776) (hl : L.length ≤ 60) (hi : Inls 0 n L) :
    weaveI (some (n, L, ())) = some (some (buildT (rowP n 0 L), ()), ()) ∧ WfN (buildT (rowP n 0 L)) ∧ items (buildT (rowP n 0 L)) = rowP n 0 L ∧ (rowP n 0 L).length ≤ 121 ∧ Rowly (-1) (rowP n 0 L) ∧ sum0 (rowP n 0 L) = n ∧ sum1 (rowP n 0 L) = n + lens L ∧ 0 ≤ lens L ∧ lens L ≤ 60000 := by
  have hlen := row_len (t := n) 0 L
  obtain ⟨b1, b2⟩ := buildT_ok (l := rowP n 0 L) (by omega)
  obtain ⟨s0, s1⟩ := row_sums (t := n) 0 L h0 hi
  have hb := lens_bd (l := L) fun x hx => (hi.1 x hx).2.2.2.2
  refine ⟨?_, b1, b2, by omega, rowP_rowly h1 (-1) 0 L (Int.le_refl _) h0 hi (by decide) (fun x hx => by have := (hi.1 x hx).2.2.1; omega), by omega, by omega, by omega, by omega⟩
  have e : (newT (rowF n 0 L)).1 = some (buildT (rowP n 0 L), ()) := by
    rw [rowF_eq h1 0 L (Int.le_refl _) h0 hi]
    unfold newT
    rw [if_neg (by omega), if_pos]
    rw [List.all_eq_true]
    intro i hi2
    exact decide_eq_true (row_check h1 0 L (Int.le_refl _) hi i hi2)
  show some ((newT (rowF n 0 L)).1, ()) = _
  rw [e]
theorem tree_find {its : List Itm} {dim v bias : Int} (hd : dim = 0 ∨ dim = 1) (hw : WfN (buildT its)) (hi : items (buildT its) = its) (hf : Fine its) (hl : its.length ≤ 1000) :
    findT (some (buildT its, ())) dim v bias = if v < 0 ∨ v > (if dim = 0 then sum0 its else sum1 its) ∨ (bias ≠ 0 ∧ bias ≠ 1) then ((0, zS, 0, ()), 1, ()) else (findP (buildT its) dim v bias, 0, ()) := by
  have so := sum_top hw (by rw [hi]; exact hf) (by rw [hi]; omega)
  unfold SumOk at so
  rw [hi] at so
  unfold findT
  show (if dim < 0 ∨ dim > 3 ∨ v < 0 ∨ v > sizeD (sumOf (buildT its)) dim ∨ (bias ≠ 0 ∧ bias ≠ 1) then _ else _) = _
  rw [size_is so hd]
  have e : (dim < 0 ∨ dim > 3 ∨ v < 0 ∨ v > (if dim = 0 then sum0 its else sum1 its) ∨ (bias ≠ 0 ∧ bias ≠ 1)) = (v < 0 ∨ v > (if dim = 0 then sum0 its else sum1 its) ∨ (bias ≠ 0 ∧ bias ≠ 1)) := by
    rw [eq_iff_iff]
    constructor
    · rintro (h | h | h)
      · omega
      · omega
      · exact h
    · intro h
      exact .inr (.inr h)
  simp only [e]
  rfl
theorem out_ok {n : Int} {L : List Inl} (h0 : 0 ≤ n) (h1 : n ≤ 1099511627776) (hl : L.length ≤ 60) (hi : Inls 0 n L) (at_ bias : Int) :
    outW (weaveI (some (n, L, ()))) at_ bias = if at_ < 0 ∨ at_ > n ∨ (bias ≠ 0 ∧ bias ≠ 1) then (0, 1, ()) else (at_ + lensA at_ bias L, 0, ()) := by
  obtain ⟨w1, w2, w3, w4, w5, w6, w7, w8, w9⟩ := weave_ok h0 h1 hl hi
  have ff := rowly_fine w5
  have tf := tree_find (v := at_) (bias := bias) (.inl rfl) w2 w3 ff (by omega)
  rw [if_pos rfl, w6] at tf
  rw [w1]
  unfold outW
  show (if (findT (some (buildT (rowP n 0 L), ())) 0 at_ bias).2.1 ≠ 0 then _ else _) = _
  rw [show treeOf (some (some (buildT (rowP n 0 L), ()), ())) = some (buildT (rowP n 0 L), ()) from rfl, tf]
  by_cases hc : at_ < 0 ∨ at_ > n ∨ (bias ≠ 0 ∧ bias ≠ 1)
  · rw [if_pos hc, if_pos hc, if_pos (by decide)]
  · rw [if_neg hc, if_neg hc, if_neg (by simp)]
    obtain ⟨_, p2, p3⟩ := findP_is (dim := 0) (v := at_) (bias := bias) (.inl rfl) w2 (by rw [w3]; exact ff) (by rw [w3]; omega)
    rw [w3] at p2 p3
    have bd := findC_bd (dim := 0) (v := at_) (bias := bias) (rowP n 0 L) 0 0 0 ff
    have o := out_row (t := n) (v := at_) (bias := bias) (by omega) 0 0 0 L h0 hi
    rw [w6, w7] at bd
    show (w64 (w64 ((findP (buildT (rowP n 0 L)) 0 at_ bias).2.1.2.1.2.1 + at_) - (findP (buildT (rowP n 0 L)) 0 at_ bias).2.1.2.1.1), (0 : Int), ()) = _
    rw [p2, p3]
    generalize findC 0 at_ bias (rowP n 0 L) 0 0 0 = f at bd o ⊢
    rw [w64_id (n := f.2.2 + at_) (by omega) (by omega), w64_id (by omega) (by omega)]
    congr 1
    omega
theorem refOut_ok {n : Int} {L : List Inl} (hl : L.length ≤ 60) (hi : Inls 0 n L) {at_ bias : Int} (h0 : 0 ≤ at_) (h1 : at_ ≤ n) (h2 : n ≤ 1099511627776) : refOut (n, L, 0, ()) at_ bias = at_ + lensA at_ bias L :=
  refOut_fold L at_ h0 (fun x hx => (hi.1 x hx).2.2.2.2) (by omega)
theorem low_wf {n : Nd} (h : WfN n) (hl : (items n).length ≤ 511) : n = .nil ∨ ∃ h : Nat, h ≤ 4 ∧ Wf h true n := by
  rcases h with rfl | ⟨h, h1, w⟩
  · exact .inl rfl
  · refine .inr ⟨h, ?_, w⟩
    obtain ⟨c1, c2⟩ := count_top h1 w
    by_cases hh : h ≤ 4
    · exact hh
    · exfalso
      have c3 := c2 (by omega)
      have c4 : 4 ^ 4 ≤ 4 ^ (h - 1) := Nat.pow_le_pow_right (by decide) (by omega)
      omega
end Go.Fr.D16
namespace Go.Fr.D16
open Go Go.Fr Go.Proofs
set_option maxRecDepth 100000
def hs22 : List (Nat × Nat × Hint) := []
def nm22 : List Nat := [3000000047]
noncomputable def E22 : Env := env tab [(30, cTop), (32, cSumOf)] [] gl hs22 nm22
def vc22 : Prop :=
 ∀ (x : Option (Nd × Unit) × Unit),
 True → True ∧ True ∧ sumOf (topT x.fst) = sumOf (topT x.fst)
theorem vcEq22 : fnVC E22 Tryd.f22 (bodyOf Tryd.f22) cSum = vc22 := by kernel_rfl
def hs24 : List (Nat × Nat × Hint) := []
def nm24 : List Nat := [3000000047]
noncomputable def E24 : Env := env tab [(30, cTop), (44, cHeightOf)] [] gl hs24 nm24
def vc24 : Prop :=
 ∀ (x : Option (Nd × Unit) × Unit),
 True → True ∧ True ∧ heightOf (topT x.fst) = heightOf (topT x.fst)
theorem vcEq24 : fnVC E24 Tryd.f24 (bodyOf Tryd.f24) cHeightT = vc24 := by kernel_rfl
def hs30 : List (Nat × Nat × Hint) := []
def nm30 : List Nat := [3000000047]
noncomputable def E30 : Env := env tab [] [] gl hs30 nm30
def vc30 : Prop :=
 ∀ (x : Option (Nd × Unit) × Unit),
 True →
 (Option.isNone x.fst = true → (NT.nil : Nd) = topT x.fst) ∧
 (Option.isNone x.fst = false →
 Option.isSome x.fst = true ∧ (List.getD (optL x.fst) (0 : Nat) (Ty.dflt t95)).fst = topT x.fst)
theorem vcEq30 : fnVC E30 Tryd.f30 (bodyOf Tryd.f30) cTop = vc30 := by kernel_rfl
def hs31 : List (Nat × Nat × Hint) := [(0, 3, ⟨[], [], [], [4000000000, 4]⟩),
  (320058, 3, ⟨[], [], [], [4000000000, 4]⟩),
  (640116, 3, ⟨[], [], [], [4000000000, 4]⟩),
  (960174, 3, ⟨[], [], [], [4000000000, 4]⟩),
  (1280232, 3, ⟨[], [], [], [4000000000, 4]⟩),
  (1600290, 3, ⟨[], [], [], [4000000000, 4]⟩),
  (1920348, 3, ⟨[], [], [], [4000000000, 4]⟩),
  (2240406, 3, ⟨[], [], [], [4000000000, 4]⟩),
  (2560464, 3, ⟨[], [], [], [4000000000, 4]⟩)]
def nm31 : List Nat := [3000000047]
noncomputable def E31 : Env := env tab [] [] gl hs31 nm31
def vc31 : Prop :=
 ∀
 (x :
 Sm × Sm × Unit),
 let y := x.snd.fst.snd;
 let y_1 := x.snd.fst.fst;
 let y_2 := addS x.fst x.snd.fst;
 let y_3 := x.fst.snd;
 let y_4 := x.fst.fst == (0 : Int);
 let y_5 := IntKind.wrap IntKind.i64 (y_3.fst.fst + y.fst.fst);
 let y_6 := IntKind.wrap IntKind.i64 (y_3.fst.snd.fst + y.fst.snd.fst);
 let y_7 := y_3.snd;
 let y_8 := (y_5, (0 : Int), (0 : Int), ());
 let y_9 := IntKind.wrap IntKind.i64 (x.fst.fst + y_1);
 let y_10 := decide (y_1 > (0 : Int));
 let y_11 := (y_9, ((0 : Int), (0 : Int), (0 : Int), ()), y_7);
 let y_12 := (y_5, y_6, IntKind.wrap IntKind.i64 (y_3.fst.snd.snd.fst + y.fst.snd.snd.fst), ());
 let y_13 := decide (y.snd.fst > y_7.fst);
 let y_14 := (y_5, y_6, (0 : Int), ());
 let y := (y.snd.fst, IntKind.wrap IntKind.i64 (x.fst.fst + y.snd.snd.fst), ());
 let y_15 := (y_9, y_8, y_7);
 let y_16 := (y_9, y_8, y);
 let y_17 := (y_9, ((0 : Int), (0 : Int), (0 : Int), ()), y);
 let y_18 := (y_9, y_14, y);
 let y_19 := (y_9, y_14, y_7);
 let y := (y_9, y_12, y);
 let y_20 := (y_9, y_12, y_7);
 True →
 (decide ((0 : Int) < (3 : Int)) = true →
 ((0 : Int) ≤ (0 : Int) ∧ (0 : Int) < (↑(3 : Nat) : Int)) ∧
 ((0 : Int) ≤ (0 : Int) ∧ (0 : Int) < (↑(3 : Nat) : Int)) ∧
 ((0 : Int) ≤ (0 : Int) ∧ (0 : Int) < (↑(3 : Nat) : Int)) ∧
 (decide (IntKind.wrap IntKind.i64 ((0 : Int) + (1 : Int)) < (3 : Int)) = true →
 ((0 : Int) ≤ IntKind.wrap IntKind.i64 ((0 : Int) + (1 : Int)) ∧
 IntKind.wrap IntKind.i64 ((0 : Int) + (1 : Int)) < (↑(3 : Nat) : Int)) ∧
 ((0 : Int) ≤ IntKind.wrap IntKind.i64 ((0 : Int) + (1 : Int)) ∧
 IntKind.wrap IntKind.i64 ((0 : Int) + (1 : Int)) < (↑(3 : Nat) : Int)) ∧
 ((0 : Int) ≤ IntKind.wrap IntKind.i64 ((0 : Int) + (1 : Int)) ∧
 IntKind.wrap IntKind.i64 ((0 : Int) + (1 : Int)) < (↑(3 : Nat) : Int)) ∧
 (decide
 (IntKind.wrap IntKind.i64
 (IntKind.wrap IntKind.i64 ((0 : Int) + (1 : Int)) + (1 : Int)) <
 (3 : Int)) =
 true →
 ((0 : Int) ≤
 IntKind.wrap IntKind.i64
 (IntKind.wrap IntKind.i64 ((0 : Int) + (1 : Int)) + (1 : Int)) ∧
 IntKind.wrap IntKind.i64
 (IntKind.wrap IntKind.i64 ((0 : Int) + (1 : Int)) + (1 : Int)) <
 (↑(3 : Nat) : Int)) ∧
 ((0 : Int) ≤
 IntKind.wrap IntKind.i64
 (IntKind.wrap IntKind.i64 ((0 : Int) + (1 : Int)) + (1 : Int)) ∧
 IntKind.wrap IntKind.i64
 (IntKind.wrap IntKind.i64 ((0 : Int) + (1 : Int)) + (1 : Int)) <
 (↑(3 : Nat) : Int)) ∧
 ((0 : Int) ≤
 IntKind.wrap IntKind.i64
 (IntKind.wrap IntKind.i64 ((0 : Int) + (1 : Int)) + (1 : Int)) ∧
 IntKind.wrap IntKind.i64
 (IntKind.wrap IntKind.i64 ((0 : Int) + (1 : Int)) + (1 : Int)) <
 (↑(3 : Nat) : Int)) ∧
 (decide
 (IntKind.wrap IntKind.i64
 (IntKind.wrap IntKind.i64
 (IntKind.wrap IntKind.i64 ((0 : Int) + (1 : Int)) + (1 : Int)) +
 (1 : Int)) <
 (3 : Int)) =
 true →
 ((0 : Int) ≤
 IntKind.wrap IntKind.i64
 (IntKind.wrap IntKind.i64
 (IntKind.wrap IntKind.i64 ((0 : Int) + (1 : Int)) + (1 : Int)) +
 (1 : Int)) ∧
 IntKind.wrap IntKind.i64
 (IntKind.wrap IntKind.i64
 (IntKind.wrap IntKind.i64 ((0 : Int) + (1 : Int)) + (1 : Int)) +
 (1 : Int)) <
 (↑(3 : Nat) : Int)) ∧
 ((0 : Int) ≤
 IntKind.wrap IntKind.i64
 (IntKind.wrap IntKind.i64
 (IntKind.wrap IntKind.i64 ((0 : Int) + (1 : Int)) + (1 : Int)) +
 (1 : Int)) ∧
 IntKind.wrap IntKind.i64
 (IntKind.wrap IntKind.i64
 (IntKind.wrap IntKind.i64 ((0 : Int) + (1 : Int)) + (1 : Int)) +
 (1 : Int)) <
 (↑(3 : Nat) : Int)) ∧
 ((0 : Int) ≤
 IntKind.wrap IntKind.i64
 (IntKind.wrap IntKind.i64
 (IntKind.wrap IntKind.i64 ((0 : Int) + (1 : Int)) + (1 : Int)) +
 (1 : Int)) ∧
 IntKind.wrap IntKind.i64
 (IntKind.wrap IntKind.i64
 (IntKind.wrap IntKind.i64 ((0 : Int) + (1 : Int)) + (1 : Int)) +
 (1 : Int)) <
 (↑(3 : Nat) : Int)) ∧
 False) ∧
 (decide
 (IntKind.wrap IntKind.i64
 (IntKind.wrap IntKind.i64
 (IntKind.wrap IntKind.i64 ((0 : Int) + (1 : Int)) + (1 : Int)) +
 (1 : Int)) <
 (3 : Int)) =
 false →
 (y_10 = true →
 (y_4 = true → y = y_2) ∧
 (y_4 = false → (y_13 = true → y = y_2) ∧ (y_13 = false → y_20 = y_2))) ∧
 (y_10 = false → y_20 = y_2))) ∧
 (decide
 (IntKind.wrap IntKind.i64
 (IntKind.wrap IntKind.i64 ((0 : Int) + (1 : Int)) + (1 : Int)) <
 (3 : Int)) =
 false →
 (y_10 = true →
 (y_4 = true → y_18 = y_2) ∧
 (y_4 = false → (y_13 = true → y_18 = y_2) ∧ (y_13 = false → y_19 = y_2))) ∧
 (y_10 = false → y_19 = y_2))) ∧
 (decide (IntKind.wrap IntKind.i64 ((0 : Int) + (1 : Int)) < (3 : Int)) = false →
 (y_10 = true →
 (y_4 = true → y_16 = y_2) ∧
 (y_4 = false → (y_13 = true → y_16 = y_2) ∧ (y_13 = false → y_15 = y_2))) ∧
 (y_10 = false → y_15 = y_2))) ∧
 (decide ((0 : Int) < (3 : Int)) = false →
 (y_10 = true →
 (y_4 = true → y_17 = y_2) ∧ (y_4 = false → (y_13 = true → y_17 = y_2) ∧ (y_13 = false → y_11 = y_2))) ∧
 (y_10 = false → y_11 = y_2))
theorem vcEq31 : fnVC E31 Tryd.f31 (bodyOf Tryd.f31) cAddS = vc31 := by kernel_rfl
def hs32 : List (Nat × Nat × Hint) := []
def nm32 : List Nat := [3000000047]
noncomputable def E32 : Env := env tab [] [] gl hs32 nm32
def vc32 : Prop :=
 ∀ (x : Nd × Unit),
 True →
 (Option.isSome (NT.asLeaf x.fst) = true →
 Option.isSome (NT.asLeaf x.fst) = true ∧
 (List.getD (optL (NT.asLeaf x.fst)) (0 : Nat) (([], zS, ()) : Lf)).snd.fst = sumOf x.fst) ∧
 (Option.isSome (NT.asLeaf x.fst) = false →
 (Option.isSome (NT.asInner x.fst) = true →
 Option.isSome (NT.asInner x.fst) = true ∧
 (List.getD (optL (NT.asInner x.fst)) (0 : Nat)
 (([], (0, zS, ())) : List Nd × Nx)).snd.snd.fst =
 sumOf x.fst) ∧
 (Option.isSome (NT.asInner x.fst) = false →
 ((0 : Int), ((0 : Int), (0 : Int), (0 : Int), ()), (0 : Int), (0 : Int), ()) = sumOf x.fst))
theorem vcEq32 : fnVC E32 Tryd.f32 (bodyOf Tryd.f32) cSumOf = vc32 := by kernel_rfl
def hs33 : List (Nat × Nat × Hint) := []
def nm33 : List Nat := [3000000047]
noncomputable def E33 : Env := env tab [] [] gl hs33 nm33
def vc33 : Prop :=
 ∀ (x : Itm × Unit),
 True → ((1 : Int), x.fst.snd.snd.fst, x.fst.snd.snd.snd.fst, (0 : Int), ()) = ofI x.fst
theorem vcEq33 : fnVC E33 Tryd.f33 (bodyOf Tryd.f33) cOfI = vc33 := by kernel_rfl
def hs37 : List (Nat × Nat × Hint) := [(0, 5, ⟨[.slot 4 t75, .slot 14 t3], [0, 12, 13], [], []⟩)]
def nm37 : List Nat := [3000000047]
noncomputable def E37 : Env := env tab [(52, cCheck), (53, cLeafOf), (39, cJoin)] [] gl hs37 nm37
def vc37 : Prop :=
 ∀ (x : List Itm × Unit),
 let y := (↑(List.length x.fst) : Int);
 let y_1 := x.fst;
 List.length y_1 ≤ (100000 : Nat) →
 (decide (y > (30000 : Int)) = true → (none, (5 : Int), ()) = newT y_1) ∧
 (decide (y > (30000 : Int)) = false →
 ((0 : Int) = (0 : Int) ∧ (NT.nil : Nd) = (NT.nil : Nd) ∧ y_1 = y_1 ∧ y_1 = y_1 ∧ y = y) ∧
 ∃ (Z : Nd × Int × Unit → Prop),
 ∃ (μ : Nd × Int × Unit → Nat),
 Z (NT.nil, (0 : Int), ()) ∧
 ∀ (a : Nd) (a_1 : Int),
 let y_2 :=  List.take  (List.length  (List.replicate  (Int.toNat  (if IntKind.wrap IntKind.i64 (y - a_1) < (8 : Int) then IntKind.wrap IntKind.i64 (y - a_1)  else (8 : Int)))  ((0 : Int), (0 : Int), ((0 : Int), (0 : Int), (0 : Int), ()), (0 : Int), ByteArray.empty,  ())))  (List.drop (Int.toNat a_1) y_1) ++  List.drop (List.length (List.drop (Int.toNat a_1) y_1))  (List.replicate  (Int.toNat  (if IntKind.wrap IntKind.i64 (y - a_1) < (8 : Int) then IntKind.wrap IntKind.i64 (y - a_1)  else (8 : Int)))  ((0 : Int), (0 : Int), ((0 : Int), (0 : Int), (0 : Int), ()), (0 : Int), ByteArray.empty,  ()));
 let y_3 :=  if IntKind.wrap IntKind.i64 (y - a_1) < (8 : Int) then IntKind.wrap IntKind.i64 (y - a_1)  else (8 : Int);
 let y_4 := IntKind.wrap IntKind.i64 (a_1 + (1 : Int));
 let y_5 := (a, a_1, ());
 let y_6 := (a, y_4, ());
 let y_7 := (join a (NT.ofLeaf (some (mkLf y_2))), y_4, ());
 let y_8 := NT.ofLeaf (some (mkLf y_2));
 Z y_5 →
 (decide (a_1 < y) = true →
 ((0 : Int) ≤ a_1 ∧ a_1 < y) ∧
 True ∧
 ((checkI (List.getD y_1 (Int.toNat a_1) (Ty.dflt t47)) != (0 : Int)) = true →
 (none, checkI (List.getD y_1 (Int.toNat a_1) (Ty.dflt t47)), ()) = newT y_1) ∧
 ((checkI (List.getD y_1 (Int.toNat a_1) (Ty.dflt t47)) != (0 : Int)) = false →
 (8 : Int) ≠ (0 : Int) ∧
 ((Int.tmod a_1 (8 : Int) == (0 : Int)) = true →
 ((0 : Int) ≤ y_3 ∧
 y_3 ≤ y_3 ∧
 y_3 * (↑(64 : Nat) : Int) ≤ (140737488355328 : Int) ∧
 y_3 ≤ (1000000000000 : Int)) ∧
 ((0 : Int) ≤ a_1 ∧ a_1 ≤ y) ∧
 List.length y_2 ≤ maxLen ∧
 Option.isSome (some (mkLf y_2)) = true ∧
 (WfN a ∧ WfN y_8) ∧
 (y_4 = y_4 ∧ join a y_8 = join a y_8 ∧ y_1 = y_1 ∧ y_1 = y_1 ∧ y = y) ∧
 Z y_7 ∧ μ y_7 < μ y_5) ∧
 ((Int.tmod a_1 (8 : Int) == (0 : Int)) = false →
 (y_4 = y_4 ∧ a = a ∧ y_1 = y_1 ∧ y_1 = y_1 ∧ y = y) ∧ Z y_6 ∧ μ y_6 < μ y_5))) ∧
 (decide (a_1 < y) = false → (some (a, ()), (0 : Int), ()) = newT y_1))
theorem vcEq37 : fnVC E37 Tryd.f37 (bodyOf Tryd.f37) cTreeNew = vc37 := by kernel_rfl
def hs39 : List (Nat × Nat × Hint) := []
def nm39 : List Nat := [3000000047]
noncomputable def E39 : Env := env tab [(55, cMeld), (56, cInnerOf)] [] gl hs39 nm39
def vc39 : Prop :=
 ∀
 (x :
 Nd ×
 Nd × Unit),
 WfN x.fst ∧ WfN x.snd.fst →
 (NT.isNil x.fst = true → x.snd.fst = join x.fst x.snd.fst) ∧
 (NT.isNil x.fst = false →
 (NT.isNil x.snd.fst = true → x.fst = join x.fst x.snd.fst) ∧
 (NT.isNil x.snd.fst = false →
 (∃ (h : Nat), ∃ (k : Nat), h ≤ (100 : Nat) ∧ k ≤ (100 : Nat) ∧ Wf h true x.fst ∧ Wf k true x.snd.fst) ∧
 (((↑(List.length (meld x.fst x.snd.fst)) : Int) == (1 : Int)) = true →
 ((0 : Int) ≤ (0 : Int) ∧ (0 : Int) < (↑(List.length (meld x.fst x.snd.fst)) : Int)) ∧
 List.getD (meld x.fst x.snd.fst) (Int.toNat (0 : Int)) (NT.nil : Nd) = join x.fst x.snd.fst) ∧
 (((↑(List.length (meld x.fst x.snd.fst)) : Int) == (1 : Int)) = false →
 ((1 : Nat) ≤ List.length (meld x.fst x.snd.fst) ∧ List.length (meld x.fst x.snd.fst) ≤ maxLen) ∧
 Option.isSome (some (meld x.fst x.snd.fst, mkNx (meld x.fst x.snd.fst))) = true ∧
 NT.ofInner (some (meld x.fst x.snd.fst, mkNx (meld x.fst x.snd.fst))) = join x.fst x.snd.fst)))
theorem vcEq39 : fnVC E39 Tryd.f39 (bodyOf Tryd.f39) cJoin = vc39 := by kernel_rfl
def hs44 : List (Nat × Nat × Hint) := []
def nm44 : List Nat := [3000000047]
noncomputable def E44 : Env := env tab [] [] gl hs44 nm44
def vc44 : Prop :=
 ∀ (x : Nd × Unit),
 True →
 (Option.isSome (NT.asLeaf x.fst) = true → (1 : Int) = heightOf x.fst) ∧
 (Option.isSome (NT.asLeaf x.fst) = false →
 (Option.isSome (NT.asInner x.fst) = true →
 Option.isSome (NT.asInner x.fst) = true ∧
 (List.getD (optL (NT.asInner x.fst)) (0 : Nat)
 (([], (0, zS, ())) : List Nd × Nx)).snd.fst =
 heightOf x.fst) ∧
 (Option.isSome (NT.asInner x.fst) = false → (0 : Int) = heightOf x.fst))
theorem vcEq44 : fnVC E44 Tryd.f44 (bodyOf Tryd.f44) cHeightOf = vc44 := by kernel_rfl
def hs52 : List (Nat × Nat × Hint) := [(0, 3, ⟨[], [], [], [4000000000, 4]⟩),
  (530022, 3, ⟨[], [], [], [4000000000, 4]⟩),
  (1060044, 3, ⟨[], [], [], [4000000000, 4]⟩),
  (1590066, 3, ⟨[], [], [], [4000000000, 4]⟩),
  (2120088, 3, ⟨[], [], [], [4000000000, 4]⟩),
  (2650110, 3, ⟨[], [], [], [4000000000, 4]⟩),
  (3180132, 3, ⟨[], [], [], [4000000000, 4]⟩),
  (3710154, 3, ⟨[], [], [], [4000000000, 4]⟩),
  (4240176, 3, ⟨[], [], [], [4000000000, 4]⟩)]
def nm52 : List Nat := [3000000047]
noncomputable def E52 : Env := env tab [(68, cWithinN)] [] gl hs52 nm52
def vc52 : Prop :=
 ∀ (x : Itm × Unit),
 True →
 True ∧
 (decide ((0 : Int) < (3 : Int)) = true →
 ((0 : Int) ≤ (0 : Int) ∧ (0 : Int) < (↑(3 : Nat) : Int)) ∧
 (withinN x.fst.snd.snd.snd.fst = true →
 True ∧
 (decide (IntKind.wrap IntKind.i64 ((0 : Int) + (1 : Int)) < (3 : Int)) = true →
 ((0 : Int) ≤ IntKind.wrap IntKind.i64 ((0 : Int) + (1 : Int)) ∧
 IntKind.wrap IntKind.i64 ((0 : Int) + (1 : Int)) < (↑(3 : Nat) : Int)) ∧
 (withinN x.fst.snd.snd.fst.fst = true →
 True ∧
 (decide
 (IntKind.wrap IntKind.i64
 (IntKind.wrap IntKind.i64 ((0 : Int) + (1 : Int)) + (1 : Int)) <
 (3 : Int)) =
 true →
 ((0 : Int) ≤
 IntKind.wrap IntKind.i64
 (IntKind.wrap IntKind.i64 ((0 : Int) + (1 : Int)) + (1 : Int)) ∧
 IntKind.wrap IntKind.i64
 (IntKind.wrap IntKind.i64 ((0 : Int) + (1 : Int)) + (1 : Int)) <
 (↑(3 : Nat) : Int)) ∧
 (withinN x.fst.snd.snd.fst.snd.fst = true →
 True ∧
 (decide
 (IntKind.wrap IntKind.i64
 (IntKind.wrap IntKind.i64
 (IntKind.wrap IntKind.i64 ((0 : Int) + (1 : Int)) +
 (1 : Int)) +
 (1 : Int)) <
 (3 : Int)) =
 true →
 False) ∧
 (decide
 (IntKind.wrap IntKind.i64
 (IntKind.wrap IntKind.i64
 (IntKind.wrap IntKind.i64 ((0 : Int) + (1 : Int)) +
 (1 : Int)) +
 (1 : Int)) <
 (3 : Int)) =
 false →
 ((!withinN x.fst.snd.snd.fst.snd.snd.fst) = true →
 (1 : Int) = checkI x.fst) ∧
 ((!withinN x.fst.snd.snd.fst.snd.snd.fst) = false →
 (0 : Int) = checkI x.fst))) ∧
 (withinN x.fst.snd.snd.fst.snd.fst = false →
 (decide
 (IntKind.wrap IntKind.i64
 (IntKind.wrap IntKind.i64
 (IntKind.wrap IntKind.i64 ((0 : Int) + (1 : Int)) + (1 : Int)) +
 (1 : Int)) <
 (3 : Int)) =
 true →
 False) ∧
 (decide
 (IntKind.wrap IntKind.i64
 (IntKind.wrap IntKind.i64
 (IntKind.wrap IntKind.i64 ((0 : Int) + (1 : Int)) + (1 : Int)) +
 (1 : Int)) <
 (3 : Int)) =
 false →
 ((!false) = true → (1 : Int) = checkI x.fst) ∧
 ((!false) = false → (0 : Int) = checkI x.fst)))) ∧
 (decide
 (IntKind.wrap IntKind.i64
 (IntKind.wrap IntKind.i64 ((0 : Int) + (1 : Int)) + (1 : Int)) <
 (3 : Int)) =
 false →
 ((!withinN x.fst.snd.snd.fst.snd.fst) = true → (1 : Int) = checkI x.fst) ∧
 ((!withinN x.fst.snd.snd.fst.snd.fst) = false → (0 : Int) = checkI x.fst))) ∧
 (withinN x.fst.snd.snd.fst.fst = false →
 (decide
 (IntKind.wrap IntKind.i64
 (IntKind.wrap IntKind.i64 ((0 : Int) + (1 : Int)) + (1 : Int)) <
 (3 : Int)) =
 true →
 ((0 : Int) ≤
 IntKind.wrap IntKind.i64
 (IntKind.wrap IntKind.i64 ((0 : Int) + (1 : Int)) + (1 : Int)) ∧
 IntKind.wrap IntKind.i64
 (IntKind.wrap IntKind.i64 ((0 : Int) + (1 : Int)) + (1 : Int)) <
 (↑(3 : Nat) : Int)) ∧
 (decide
 (IntKind.wrap IntKind.i64
 (IntKind.wrap IntKind.i64
 (IntKind.wrap IntKind.i64 ((0 : Int) + (1 : Int)) + (1 : Int)) +
 (1 : Int)) <
 (3 : Int)) =
 true →
 False) ∧
 (decide
 (IntKind.wrap IntKind.i64
 (IntKind.wrap IntKind.i64
 (IntKind.wrap IntKind.i64 ((0 : Int) + (1 : Int)) + (1 : Int)) +
 (1 : Int)) <
 (3 : Int)) =
 false →
 ((!false) = true → (1 : Int) = checkI x.fst) ∧
 ((!false) = false → (0 : Int) = checkI x.fst))) ∧
 (decide
 (IntKind.wrap IntKind.i64
 (IntKind.wrap IntKind.i64 ((0 : Int) + (1 : Int)) + (1 : Int)) <
 (3 : Int)) =
 false →
 ((!false) = true → (1 : Int) = checkI x.fst) ∧
 ((!false) = false → (0 : Int) = checkI x.fst)))) ∧
 (decide (IntKind.wrap IntKind.i64 ((0 : Int) + (1 : Int)) < (3 : Int)) = false →
 ((!withinN x.fst.snd.snd.fst.fst) = true → (1 : Int) = checkI x.fst) ∧
 ((!withinN x.fst.snd.snd.fst.fst) = false → (0 : Int) = checkI x.fst))) ∧
 (withinN x.fst.snd.snd.snd.fst = false →
 (decide (IntKind.wrap IntKind.i64 ((0 : Int) + (1 : Int)) < (3 : Int)) = true →
 ((0 : Int) ≤ IntKind.wrap IntKind.i64 ((0 : Int) + (1 : Int)) ∧
 IntKind.wrap IntKind.i64 ((0 : Int) + (1 : Int)) < (↑(3 : Nat) : Int)) ∧
 (decide
 (IntKind.wrap IntKind.i64 (IntKind.wrap IntKind.i64 ((0 : Int) + (1 : Int)) + (1 : Int)) <
 (3 : Int)) =
 true →
 ((0 : Int) ≤
 IntKind.wrap IntKind.i64
 (IntKind.wrap IntKind.i64 ((0 : Int) + (1 : Int)) + (1 : Int)) ∧
 IntKind.wrap IntKind.i64 (IntKind.wrap IntKind.i64 ((0 : Int) + (1 : Int)) + (1 : Int)) <
 (↑(3 : Nat) : Int)) ∧
 (decide
 (IntKind.wrap IntKind.i64
 (IntKind.wrap IntKind.i64
 (IntKind.wrap IntKind.i64 ((0 : Int) + (1 : Int)) + (1 : Int)) +
 (1 : Int)) <
 (3 : Int)) =
 true →
 False) ∧
 (decide
 (IntKind.wrap IntKind.i64
 (IntKind.wrap IntKind.i64
 (IntKind.wrap IntKind.i64 ((0 : Int) + (1 : Int)) + (1 : Int)) +
 (1 : Int)) <
 (3 : Int)) =
 false →
 ((!false) = true → (1 : Int) = checkI x.fst) ∧
 ((!false) = false → (0 : Int) = checkI x.fst))) ∧
 (decide
 (IntKind.wrap IntKind.i64 (IntKind.wrap IntKind.i64 ((0 : Int) + (1 : Int)) + (1 : Int)) <
 (3 : Int)) =
 false →
 ((!false) = true → (1 : Int) = checkI x.fst) ∧
 ((!false) = false → (0 : Int) = checkI x.fst))) ∧
 (decide (IntKind.wrap IntKind.i64 ((0 : Int) + (1 : Int)) < (3 : Int)) = false →
 ((!false) = true → (1 : Int) = checkI x.fst) ∧ ((!false) = false → (0 : Int) = checkI x.fst)))) ∧
 (decide ((0 : Int) < (3 : Int)) = false →
 ((!withinN x.fst.snd.snd.snd.fst) = true → (1 : Int) = checkI x.fst) ∧
 ((!withinN x.fst.snd.snd.snd.fst) = false → (0 : Int) = checkI x.fst))
theorem vcEq52 : fnVC E52 Tryd.f52 (bodyOf Tryd.f52) cCheck = vc52 := by kernel_rfl
def hs53 : List (Nat × Nat × Hint) := []
def nm53 : List Nat := [3000000047]
noncomputable def E53 : Env := env tab [(69, cAllS)] [] gl hs53 nm53
def vc53 : Prop :=
 ∀ (x : List Itm × Unit),
 List.length x.fst ≤ maxLen → List.length x.fst ≤ maxLen ∧ some (x.fst, allS x.fst, ()) = some (mkLf x.fst)
theorem vcEq53 : fnVC E53 Tryd.f53 (bodyOf Tryd.f53) cLeafOf = vc53 := by kernel_rfl
def hs54 : List (Nat × Nat × Hint) := []
def nm54 : List Nat := [3000000047]
noncomputable def E54 : Env := env tab [(56, cInnerOf)] [] gl hs54 nm54
def vc54 : Prop :=
 ∀ (x : List (Nd) × Unit),
 List.length x.fst ≤ (100000 : Nat) →
 (((↑(List.length x.fst) : Int) == (0 : Int)) = true → (NT.nil : Nd) = rowN x.fst) ∧
 (((↑(List.length x.fst) : Int) == (0 : Int)) = false →
 (((↑(List.length x.fst) : Int) == (1 : Int)) = true →
 ((0 : Int) ≤ (0 : Int) ∧ (0 : Int) < (↑(List.length x.fst) : Int)) ∧
 List.getD x.fst (Int.toNat (0 : Int)) (NT.nil : Nd) = rowN x.fst) ∧
 (((↑(List.length x.fst) : Int) == (1 : Int)) = false →
 ((1 : Nat) ≤ List.length x.fst ∧ List.length x.fst ≤ maxLen) ∧
 Option.isSome (some (x.fst, mkNx x.fst)) = true ∧ NT.ofInner (some (x.fst, mkNx x.fst)) = rowN x.fst))
theorem vcEq54 : fnVC E54 Tryd.f54 (bodyOf Tryd.f54) cRowN = vc54 := by kernel_rfl
def hs55 : List (Nat × Nat × Hint) := []
def nm55 : List Nat := [3000000047, 4000000012]
noncomputable def E55 (nn : Nat) : Env := env tab [(44, cHeightOf), (55, cMeld.cut muMeld nn), (71, cPut), (70, cRaise), (72, cSpread)] [] gl hs55 nm55
def vc55 (nn : Nat) : Prop :=
 ∀
 (x :
 Nd ×
 Nd × Unit),
 let y :=  List.replicate (Int.toNat (0 : Int))  ((0 : Int), (0 : Int), ((0 : Int), (0 : Int), (0 : Int), ()), (0 : Int), ByteArray.empty, ()) ++  (List.getD (optL (NT.asLeaf x.fst)) (0 : Nat) (([], zS, ()) : Lf)).fst;
 let y_1 :=  (List.getD (optL (NT.asInner x.fst)) (0 : Nat)  (([], (0, zS, ())) : List Nd × Nx)).fst;
 let y_2 :=  List.length  (List.replicate (Int.toNat (0 : Int))  ((0 : Int), (0 : Int), ((0 : Int), (0 : Int), (0 : Int), ()), (0 : Int), ByteArray.empty, ())) +  List.length (List.getD (optL (NT.asLeaf x.fst)) (0 : Nat) (([], zS, ()) : Lf)).fst;
 let y_3 :=  IntKind.wrap IntKind.i64  ((↑(List.length (List.getD (optL (NT.asLeaf x.fst)) (0 : Nat) (([], zS, ()) : Lf)).fst) : Int) +  (↑(List.length (List.getD (optL (NT.asLeaf x.snd.fst)) (0 : Nat) (([], zS, ()) : Lf)).fst) : Int));
 let y_4 :=  (List.getD (optL (NT.asInner x.snd.fst)) (0 : Nat)  (([], (0, zS, ())) : List Nd × Nx)).fst;
 let y_5 := x.snd.fst;
 let y_6 := x.fst;
 let y_7 := Option.isSome (NT.asInner y_6);
 let y_8 := Option.isSome (NT.asLeaf y_6);
 let y_9 := Option.isSome (NT.asInner y_6);
 let y_10 := Option.isSome (NT.asLeaf y_5);
 let y_11 := meld y_6 y_5;
 let y_12 := Option.isSome (NT.asInner y_5);
 let y_13 := (List.getD (optL (NT.asLeaf y_5)) (0 : Nat) (([], zS, ()) : Lf)).fst;
 let y_14 := Option.isSome (NT.asInner y_5);
 let y_15 := decide (heightOf y_6 < heightOf y_5);
 let y_16 :=  List.getD y_4 (Int.toNat (0 : Int)) (NT.nil : Nd);
 let y_17 := List.drop (Int.toNat (1 : Int)) y_4;
 let y_18 := (↑(List.length y_4) : Int);
 let y_19 := meld y_6 y_16 ++ y_17;
 let y_20 := y_3 * (↑(64 : Nat) : Int);
 let y_21 := y_2 * (64 : Nat);
 let y_22 := IntKind.wrap IntKind.i64 ((↑(List.length y_1) : Int) - (1 : Int));
 let y_23 := y_1 ++ y_4;
 let y_24 := (↑(List.length y_1) : Int);
 let y_25 :=  List.getD y_1 (Int.toNat y_22) (NT.nil : Nd);
 let y_26 := List.take (Int.toNat y_22) y_1 ++ meld y_25 y_5;
 let y_27 := y ++ y_13;
 let y := List.length y + List.length y_13;
 let y_28 := y * (64 : Nat);
 (∃ (h : Nat), ∃ (k : Nat), h ≤ (100 : Nat) ∧ k ≤ (100 : Nat) ∧ Wf h true y_6 ∧ Wf k true y_5) ∧
 muMeld x < nn + (1 : Nat) →
 True ∧
 True ∧
 (decide (heightOf y_6 > heightOf y_5) = true →
 y_9 = true ∧
 y_7 = true ∧
 y_7 = true ∧
 ((0 : Int) ≤ y_22 ∧ y_22 ≤ y_24) ∧
 y_7 = true ∧
 ((0 : Int) ≤ y_22 ∧ y_22 < y_24) ∧
 ((∃ (h : Nat),
 ∃ (k : Nat), h ≤ (100 : Nat) ∧ k ≤ (100 : Nat) ∧ Wf h true y_25 ∧ Wf k true y_5) ∧
 muMeld (y_25, x.snd) < nn) ∧
 (List.length (List.take (Int.toNat y_22) y_1) ≤ (100000 : Nat) ∧
 List.length (meld y_25 y_5) ≤ (100000 : Nat)) ∧
 ((1 : Nat) ≤ List.length y_26 ∧ List.length y_26 ≤ (100000 : Nat)) ∧ raise y_26 = y_11) ∧
 (decide (heightOf y_6 > heightOf y_5) = false →
 (y_15 = true →
 y_14 = true ∧
 y_12 = true ∧
 ((0 : Int) ≤ (0 : Int) ∧ (0 : Int) < y_18) ∧
 ((∃ (h : Nat), ∃ (k : Nat), h ≤ (100 : Nat) ∧ k ≤ (100 : Nat) ∧ Wf h true y_6 ∧ Wf k true y_16) ∧
 muMeld (y_6, y_16, ()) < nn) ∧
 y_12 = true ∧
 ((0 : Int) ≤ (1 : Int) ∧ (1 : Int) ≤ y_18) ∧
 (List.length (meld y_6 y_16) ≤ (100000 : Nat) ∧ List.length y_17 ≤ (100000 : Nat)) ∧
 ((1 : Nat) ≤ List.length y_19 ∧ List.length y_19 ≤ (100000 : Nat)) ∧ raise y_19 = y_11) ∧
 (y_15 = false →
 (y_8 = true →
 y_10 = true ∧
 y_8 = true ∧
 y_10 = true ∧
 ((((0 : Int) ≤ (0 : Int) ∧
 (0 : Int) ≤ y_3 ∧ y_20 ≤ (140737488355328 : Int) ∧ y_3 ≤ (1000000000000 : Int)) ∧
 y_8 = true ∧
 y_21 ≤ (140737488355328 : Nat) ∧
 y_2 ≤ maxLen ∧
 y_10 = true ∧
 y_28 ≤ (140737488355328 : Nat) ∧
 y ≤ maxLen ∧ List.length y_27 ≤ (100000 : Nat) ∧ spread y_27 = y_11) ∧
 (((0 : Int) ≤ (0 : Int) ∧
 (0 : Int) ≤ y_3 ∧ y_20 ≤ (140737488355328 : Int) ∧ y_3 ≤ (1000000000000 : Int)) ∧
 y_8 = true ∧
 y_21 ≤ (140737488355328 : Nat) ∧
 y_2 ≤ maxLen ∧
 y_10 = true ∧
 y_28 ≤ (140737488355328 : Nat) ∧
 y ≤ maxLen ∧ List.length y_27 ≤ (100000 : Nat) ∧ spread y_27 = y_11) ∧
 ((0 : Int) ≤ (0 : Int) ∧
 (0 : Int) ≤ y_3 ∧ y_20 ≤ (140737488355328 : Int) ∧ y_3 ≤ (1000000000000 : Int)) ∧
 y_8 = true ∧
 y_21 ≤ (140737488355328 : Nat) ∧
 y_2 ≤ maxLen ∧
 y_10 = true ∧
 y_28 ≤ (140737488355328 : Nat) ∧
 y ≤ maxLen ∧ List.length y_27 ≤ (100000 : Nat) ∧ spread y_27 = y_11) ∧
 ((((0 : Int) ≤ (0 : Int) ∧
 (0 : Int) ≤ y_3 ∧ y_20 ≤ (140737488355328 : Int) ∧ y_3 ≤ (1000000000000 : Int)) ∧
 y_8 = true ∧
 y_21 ≤ (140737488355328 : Nat) ∧
 y_2 ≤ maxLen ∧
 y_10 = true ∧
 y_28 ≤ (140737488355328 : Nat) ∧
 y ≤ maxLen ∧ List.length y_27 ≤ (100000 : Nat) ∧ spread y_27 = y_11) ∧
 ((0 : Int) ≤ (0 : Int) ∧
 (0 : Int) ≤ y_3 ∧ y_20 ≤ (140737488355328 : Int) ∧ y_3 ≤ (1000000000000 : Int)) ∧
 y_8 = true ∧
 y_21 ≤ (140737488355328 : Nat) ∧
 y_2 ≤ maxLen ∧
 y_10 = true ∧
 y_28 ≤ (140737488355328 : Nat) ∧
 y ≤ maxLen ∧ List.length y_27 ≤ (100000 : Nat) ∧ spread y_27 = y_11) ∧
 ((0 : Int) ≤ (0 : Int) ∧
 (0 : Int) ≤ y_3 ∧ y_20 ≤ (140737488355328 : Int) ∧ y_3 ≤ (1000000000000 : Int)) ∧
 y_8 = true ∧
 y_21 ≤ (140737488355328 : Nat) ∧
 y_2 ≤ maxLen ∧
 y_10 = true ∧
 y_28 ≤ (140737488355328 : Nat) ∧
 y ≤ maxLen ∧ List.length y_27 ≤ (100000 : Nat) ∧ spread y_27 = y_11) ∧
 (y_8 = false →
 y_9 = true ∧
 y_7 = true ∧
 y_14 = true ∧
 y_12 = true ∧
 (List.length y_1 ≤ (100000 : Nat) ∧ List.length y_4 ≤ (100000 : Nat)) ∧
 ((1 : Nat) ≤ List.length y_23 ∧ List.length y_23 ≤ (100000 : Nat)) ∧ raise y_23 = y_11)))
theorem vcEq55 (nn : Nat) : fnVC (E55 nn) Tryd.f55 (bodyOf Tryd.f55) (cMeld.cut muMeld (nn + 1)) = vc55 nn := by kernel_rfl
def hs56 : List (Nat × Nat × Hint) := [(0, 3, ⟨[.slot 16 t3, .cell 13 2 t3, .cell 13 3 t3, .cell 13 4 t3, .cell 13 5 t3, .cell 13 6 t3, .cell 13 7 t3], [3, 14, 15], [13], []⟩)]
def nm56 : List Nat := [3000000047]
noncomputable def E56 : Env := env tab [(44, cHeightOf), (32, cSumOf), (31, cAddS)] [] gl hs56 nm56
def vc56 : Prop :=
 ∀ (x : List (Nd) × Unit),
 let y := x.fst;
 let y_1 := IntKind.wrap IntKind.i64 (heightOf (List.getD y (Int.toNat (0 : Int)) (NT.nil : Nd)) + (1 : Int));
 let y_2 := (↑(List.length y) : Int);
 (1 : Nat) ≤ List.length y ∧ List.length y ≤ maxLen →
 ((0 : Int) ≤ (0 : Int) ∧ (0 : Int) < y_2) ∧
 True ∧
 (((0 : Int) = (0 : Int) ∧ True ∧ y = y ∧ y_2 = y_2) ∧
 y = y ∧
 y_1 = y_1 ∧
 (0 : Int) = (0 : Int) ∧
 (0 : Int) = (0 : Int) ∧
 (0 : Int) = (0 : Int) ∧ (0 : Int) = (0 : Int) ∧ (0 : Int) = (0 : Int) ∧ (0 : Int) = (0 : Int)) ∧
 ∃ (Z : Int × Int × Int × Int × Int × Int × Int × Unit → Prop),
 ∃ (μ : Int × Int × Int × Int × Int × Int × Int × Unit → Nat),
 Z ((0 : Int), (0 : Int), (0 : Int), (0 : Int), (0 : Int), (0 : Int), (0 : Int), ()) ∧
 ∀ (a : Int),
 let y_3 := sumOf (List.getD y (Int.toNat a) (NT.nil : Nd));
 let y_4 := IntKind.wrap IntKind.i64 (a + (1 : Int));
 ∀ (a_1 a_2 a_3 a_4 : Int),
 let y_5 := (a_2, a_3, a_4, ());
 ∀ (a_5 a_6 : Int),
 let y_6 := (addS (a_1, y_5, a_5, a_6, ()) y_3).snd;
 let y_7 := (a, a_1, a_2, a_3, a_4, a_5, a_6, ());
 let y_8 := (a_1, y_5, a_5, a_6, ());
 let y_9 := (addS y_8 y_3).fst;
 let y_10 := (y_4, y_9, y_6.fst.fst, y_6.fst.snd.fst, y_6.fst.snd.snd.fst, y_6.snd);
 let y_11 := y_6.fst.snd;
 let y_12 := y_6.snd;
 Z y_7 →
 (decide (a < y_2) = true →
 ((0 : Int) ≤ a ∧ a < y_2) ∧
 True ∧
 True ∧
 ((y_4 = y_4 ∧ True ∧ y = y ∧ y_2 = y_2) ∧
 y = y ∧
 y_1 = y_1 ∧
 y_9 = y_9 ∧
 y_6.fst.fst = y_6.fst.fst ∧
 y_11.fst = y_11.fst ∧
 y_11.snd.fst = y_11.snd.fst ∧
 y_12.fst = y_12.fst ∧ y_12.snd.fst = y_12.snd.fst) ∧
 Z y_10 ∧ μ y_10 < μ y_7) ∧
 (decide (a < y_2) = false → some (y, y_1, y_8, ()) = some (y, mkNx y))
theorem vcEq56 : fnVC E56 Tryd.f56 (bodyOf Tryd.f56) cInnerOf = vc56 := by kernel_rfl
def hs68 : List (Nat × Nat × Hint) := []
def nm68 : List Nat := [3000000047]
noncomputable def E68 : Env := env tab [] [] gl hs68 nm68
def vc68 : Prop :=
 ∀ (x : Int × Unit),
 True →
 (decide (x.fst ≥ (0 : Int)) = true → decide (x.fst ≤ (1099511627776 : Int)) = withinN x.fst) ∧
 (decide (x.fst ≥ (0 : Int)) = false → false = withinN x.fst)
theorem vcEq68 : fnVC E68 Tryd.f68 (bodyOf Tryd.f68) cWithinN = vc68 := by kernel_rfl
def hs69 : List (Nat × Nat × Hint) := [(0, 3, ⟨[.slot 8 t3, .cell 3 0 t3, .cell 3 1 t3, .cell 3 2 t3, .cell 3 3 t3, .cell 3 4 t3, .cell 3 5 t3], [2, 3, 6, 7], [2, 3], []⟩)]
def nm69 : List Nat := [3000000047]
noncomputable def E69 : Env := env tab [(33, cOfI), (31, cAddS)] [] gl hs69 nm69
def vc69 : Prop :=
 ∀ (x : List Itm × Unit),
 let y := x.fst;
 let y_1 := (↑(List.length y) : Int);
 List.length y ≤ maxLen →
 (((0 : Int) = (0 : Int) ∧ True ∧ True ∧ y = y ∧ y_1 = y_1) ∧
 ((0 : Int) = (0 : Int) ∧
 (0 : Int) = (0 : Int) ∧
 (0 : Int) = (0 : Int) ∧ (0 : Int) = (0 : Int) ∧ (0 : Int) = (0 : Int) ∧ (0 : Int) = (0 : Int)) ∧
 (0 : Int) = (0 : Int) ∧
 (0 : Int) = (0 : Int) ∧
 (0 : Int) = (0 : Int) ∧ (0 : Int) = (0 : Int) ∧ (0 : Int) = (0 : Int) ∧ (0 : Int) = (0 : Int)) ∧
 ∃ (Z : Int × Int × Int × Int × Int × Int × Int × Unit → Prop),
 ∃ (μ : Int × Int × Int × Int × Int × Int × Int × Unit → Nat),
 Z ((0 : Int), (0 : Int), (0 : Int), (0 : Int), (0 : Int), (0 : Int), (0 : Int), ()) ∧
 ∀ (a : Int),
 let y_2 := ofI (List.getD y (Int.toNat a) (Ty.dflt t47));
 let y_3 := IntKind.wrap IntKind.i64 (a + (1 : Int));
 ∀ (a_1 a_2 a_3 a_4 : Int),
 let y_4 := (a_2, a_3, a_4, ());
 ∀ (a_5 a_6 : Int),
 let y_5 := (addS (a_1, y_4, a_5, a_6, ()) y_2).snd;
 let y_6 := (a, a_1, a_2, a_3, a_4, a_5, a_6, ());
 let y_7 := (a_1, y_4, a_5, a_6, ());
 let y_8 := (addS y_7 y_2).fst;
 let y_9 := (y_3, y_8, y_5.fst.fst, y_5.fst.snd.fst, y_5.fst.snd.snd.fst, y_5.snd);
 let y_10 := y_5.fst.snd;
 let y_11 := y_5.snd;
 Z y_6 →
 (decide (a < y_1) = true →
 ((0 : Int) ≤ a ∧ a < y_1) ∧
 True ∧
 True ∧
 ((y_3 = y_3 ∧ True ∧ True ∧ y = y ∧ y_1 = y_1) ∧
 ((0 : Int) = (0 : Int) ∧
 (0 : Int) = (0 : Int) ∧
 (0 : Int) = (0 : Int) ∧
 (0 : Int) = (0 : Int) ∧ (0 : Int) = (0 : Int) ∧ (0 : Int) = (0 : Int)) ∧
 y_8 = y_8 ∧
 y_5.fst.fst = y_5.fst.fst ∧
 y_10.fst = y_10.fst ∧
 y_10.snd.fst = y_10.snd.fst ∧
 y_11.fst = y_11.fst ∧ y_11.snd.fst = y_11.snd.fst) ∧
 Z y_9 ∧ μ y_9 < μ y_6) ∧
 (decide (a < y_1) = false → y_7 = allS y)
theorem vcEq69 : fnVC E69 Tryd.f69 (bodyOf Tryd.f69) cAllS = vc69 := by kernel_rfl
def hs70 : List (Nat × Nat × Hint) := []
def nm70 : List Nat := [3000000047]
noncomputable def E70 : Env := env tab [(56, cInnerOf)] [] gl hs70 nm70
def vc70 : Prop :=
 ∀ (x : List (Nd) × Unit),
 let y := IntKind.wrap IntKind.i64 (Int.tdiv (↑(List.length x.fst) : Int) (2 : Int));
 let y_1 := x.fst;
 let y_2 := (↑(List.length y_1) : Int);
 let y_3 := List.drop (Int.toNat y) y_1;
 let y_4 := List.take (Int.toNat y) y_1;
 (1 : Nat) ≤ List.length y_1 ∧ List.length y_1 ≤ (100000 : Nat) →
 (decide (y_2 ≤ (8 : Int)) = true →
 ((1 : Nat) ≤ List.length y_1 ∧ List.length y_1 ≤ maxLen) ∧
 Option.isSome (some (y_1, mkNx y_1)) = true ∧ [NT.ofInner (some (y_1, mkNx y_1))] = raise y_1) ∧
 (decide (y_2 ≤ (8 : Int)) = false →
 (2 : Int) ≠ (0 : Int) ∧
 ((0 : Int) ≤ y ∧ y ≤ y ∧ y ≤ y_2) ∧
 ((1 : Nat) ≤ List.length y_4 ∧ List.length y_4 ≤ maxLen) ∧
 Option.isSome (some (y_4, mkNx y_4)) = true ∧
 ((0 : Int) ≤ y ∧ y ≤ y_2) ∧
 ((1 : Nat) ≤ List.length y_3 ∧ List.length y_3 ≤ maxLen) ∧
 Option.isSome (some (y_3, mkNx y_3)) = true ∧
 [NT.ofInner (some (y_4, mkNx y_4)), NT.ofInner (some (y_3, mkNx y_3))] = raise y_1)
theorem vcEq70 : fnVC E70 Tryd.f70 (bodyOf Tryd.f70) cRaise = vc70 := by kernel_rfl
def hs71 : List (Nat × Nat × Hint) := []
def nm71 : List Nat := [3000000047]
noncomputable def E71 : Env := env tab [] [] gl hs71 nm71
def vc71 : Prop :=
 ∀
 (x :
 List (Nd) ×
 List (Nd) × Unit),
 List.length x.fst ≤ (100000 : Nat) ∧ List.length x.snd.fst ≤ (100000 : Nat) →
 ((0 : Int) ≤ (0 : Int) ∧
 (0 : Int) ≤ IntKind.wrap IntKind.i64 ((↑(List.length x.fst) : Int) + (↑(List.length x.snd.fst) : Int)) ∧
 IntKind.wrap IntKind.i64 ((↑(List.length x.fst) : Int) + (↑(List.length x.snd.fst) : Int)) *
 (↑(16 : Nat) : Int) ≤
 (140737488355328 : Int) ∧
 IntKind.wrap IntKind.i64 ((↑(List.length x.fst) : Int) + (↑(List.length x.snd.fst) : Int)) ≤
 (1000000000000 : Int)) ∧
 (List.length (List.replicate (Int.toNat (0 : Int)) (NT.nil : Nd)) + List.length x.fst) * (16 : Nat) ≤
 (140737488355328 : Nat) ∧
 List.length (List.replicate (Int.toNat (0 : Int)) (NT.nil : Nd)) + List.length x.fst ≤ maxLen ∧
 (List.length (List.replicate (Int.toNat (0 : Int)) (NT.nil : Nd) ++ x.fst) + List.length x.snd.fst) * (16 : Nat) ≤
 (140737488355328 : Nat) ∧
 List.length (List.replicate (Int.toNat (0 : Int)) (NT.nil : Nd) ++ x.fst) + List.length x.snd.fst ≤ maxLen ∧
 List.replicate (Int.toNat (0 : Int)) (NT.nil : Nd) ++ x.fst ++ x.snd.fst = x.fst ++ x.snd.fst
theorem vcEq71 : fnVC E71 Tryd.f71 (bodyOf Tryd.f71) cPut = vc71 := by kernel_rfl
def hs72 : List (Nat × Nat × Hint) := []
def nm72 : List Nat := [3000000047]
noncomputable def E72 : Env := env tab [(53, cLeafOf)] [] gl hs72 nm72
def vc72 : Prop :=
 ∀ (x : List Itm × Unit),
 List.length x.fst ≤ (100000 : Nat) →
 (decide ((↑(List.length x.fst) : Int) ≤ (8 : Int)) = true →
 List.length x.fst ≤ maxLen ∧
 Option.isSome (some (mkLf x.fst)) = true ∧ [NT.ofLeaf (some (mkLf x.fst))] = spread x.fst) ∧
 (decide ((↑(List.length x.fst) : Int) ≤ (8 : Int)) = false →
 (2 : Int) ≠ (0 : Int) ∧
 ((0 : Int) ≤ IntKind.wrap IntKind.i64 (Int.tdiv (↑(List.length x.fst) : Int) (2 : Int)) ∧
 IntKind.wrap IntKind.i64 (Int.tdiv (↑(List.length x.fst) : Int) (2 : Int)) ≤
 IntKind.wrap IntKind.i64 (Int.tdiv (↑(List.length x.fst) : Int) (2 : Int)) ∧
 IntKind.wrap IntKind.i64 (Int.tdiv (↑(List.length x.fst) : Int) (2 : Int)) ≤
 (↑(List.length x.fst) : Int)) ∧
 List.length
 (List.take (Int.toNat (IntKind.wrap IntKind.i64 (Int.tdiv (↑(List.length x.fst) : Int) (2 : Int))))
 x.fst) ≤
 maxLen ∧
 Option.isSome
 (some
 (mkLf
 (List.take
 (Int.toNat (IntKind.wrap IntKind.i64 (Int.tdiv (↑(List.length x.fst) : Int) (2 : Int))))
 x.fst))) =
 true ∧
 ((0 : Int) ≤ IntKind.wrap IntKind.i64 (Int.tdiv (↑(List.length x.fst) : Int) (2 : Int)) ∧
 IntKind.wrap IntKind.i64 (Int.tdiv (↑(List.length x.fst) : Int) (2 : Int)) ≤
 (↑(List.length x.fst) : Int)) ∧
 List.length
 (List.drop
 (Int.toNat (IntKind.wrap IntKind.i64 (Int.tdiv (↑(List.length x.fst) : Int) (2 : Int))))
 x.fst) ≤
 maxLen ∧
 Option.isSome
 (some
 (mkLf
 (List.drop
 (Int.toNat (IntKind.wrap IntKind.i64 (Int.tdiv (↑(List.length x.fst) : Int) (2 : Int))))
 x.fst))) =
 true ∧
 [NT.ofLeaf
 (some
 (mkLf
 (List.take
 (Int.toNat
 (IntKind.wrap IntKind.i64 (Int.tdiv (↑(List.length x.fst) : Int) (2 : Int))))
 x.fst))),
 NT.ofLeaf
 (some
 (mkLf
 (List.drop
 (Int.toNat
 (IntKind.wrap IntKind.i64 (Int.tdiv (↑(List.length x.fst) : Int) (2 : Int))))
 x.fst)))] =
 spread x.fst)
theorem vcEq72 : fnVC E72 Tryd.f72 (bodyOf Tryd.f72) cSpread = vc72 := by kernel_rfl
end Go.Fr.D16
namespace Go.Fr.D16
open Go Go.Fr Go.Proofs
theorem ka (a : Nd) (d : List Nd × Nx) (hd : d = ([], (0, zS, ()))) : ((optL (NT.asInner a)).getD 0 d).1 = kidsOf a := by
  subst hd
  cases a <;> rfl
theorem ka' (a : Nd) : ((optL (NT.asInner a)).getD 0 (([], (0, zS, ())) : List Nd × Nx)).1 = kidsOf a := ka a _ rfl
theorem la' (a : Nd) : ((optL (NT.asLeaf a)).getD 0 (([], zS, ()) : Lf)).1 = itemsOf a := by
  cases a <;> rfl
theorem p68 : vc68 := by
  unfold vc68
  rintro ⟨n, ⟨⟩⟩ -
  simp only [withinN]
  refine ⟨fun h => ?_, fun h => ?_⟩
  · rw [show decide (0 ≤ n) = true from by simp at h ⊢; omega]; rfl
  · rw [show decide (0 ≤ n) = false from by simp at h ⊢; omega]; rfl
theorem w1 : IntKind.i64.wrap (0 + 1) = 1 := by decide
theorem w2 : IntKind.i64.wrap (1 + 1) = 2 := by decide
theorem w3 : IntKind.i64.wrap (2 + 1) = 3 := by decide
theorem w4 : IntKind.i64.wrap (3 + 1) = 4 := by decide
theorem p52 : vc52 := by
  unfold vc52
  rintro ⟨x, ⟨⟩⟩ -
  simp only [w1, w2, w3]
  unfold checkI
  cases withinN x.2.2.2.1 <;> cases withinN x.2.2.1.1 <;> cases withinN x.2.2.1.2.1 <;> cases withinN x.2.2.1.2.2.1 <;> simp
theorem p33 : vc33 := by
  unfold vc33
  rintro ⟨x, ⟨⟩⟩ -
  rfl
theorem p31 : vc31 := by
  unfold vc31
  simp only [decide_eq_true_eq, decide_eq_false_iff_not, beq_iff_eq, beq_eq_false_iff_ne, ne_eq]
  rintro ⟨a, b, ⟨⟩⟩ -
  simp only [w1, w2, w3]
  have yes : b.1 > 0 → (a.1 = 0 ∨ b.2.2.1 > a.2.2.1) → (IntKind.i64.wrap (a.1 + b.1), (IntKind.i64.wrap (a.2.1.1 + b.2.1.1), IntKind.i64.wrap (a.2.1.2.1 + b.2.1.2.1), IntKind.i64.wrap (a.2.1.2.2.1 + b.2.1.2.2.1), ()), b.2.2.1, IntKind.i64.wrap (a.1 + b.2.2.2.1), ()) = addS a b := fun h1 h2 => by
    unfold addS
    rw [if_pos ⟨h1, h2⟩]
    rfl
  have no : ¬ (b.1 > 0 ∧ (a.1 = 0 ∨ b.2.2.1 > a.2.2.1)) → (IntKind.i64.wrap (a.1 + b.1), (IntKind.i64.wrap (a.2.1.1 + b.2.1.1), IntKind.i64.wrap (a.2.1.2.1 + b.2.1.2.1), IntKind.i64.wrap (a.2.1.2.2.1 + b.2.1.2.2.1), ()), a.2.2.1, a.2.2.2.1, ()) = addS a b := fun h1 => by
    unfold addS
    rw [if_neg h1]
    rfl
  (repeat' (first | apply And.intro | intro _))
  all_goals first
    | (exfalso; omega)
    | exact yes (by assumption) (.inl (by assumption))
    | exact yes (by assumption) (.inr (by assumption))
    | exact no (fun hh => hh.2.elim (by assumption) (by assumption))
    | exact no (fun hh => absurd hh.1 (by assumption))
    | omega
    | decide
theorem p44 : vc44 := by
  unfold vc44
  rintro ⟨x, ⟨⟩⟩ -
  cases x with
  | nil => exact ⟨fun h => (by cases h), fun _ => ⟨fun h => (by cases h), fun _ => rfl⟩⟩
  | leaf a => exact ⟨fun _ => rfl, fun h => by cases h⟩
  | inner ks b => exact ⟨fun h => (by cases h), fun _ => ⟨fun _ => ⟨rfl, rfl⟩, fun h => by cases h⟩⟩
theorem p32 : vc32 := by
  unfold vc32
  try simp only [eq_self, true_and, and_true, decide_eq_true_eq, decide_eq_false_iff_not, beq_iff_eq, beq_eq_false_iff_ne, bne_iff_ne, bne_eq_false_iff_eq, Bool.not_eq_true', Bool.not_eq_false', ne_eq, imp_true_iff, implies_true]
  rintro ⟨x, ⟨⟩⟩ -
  cases x with
  | nil => exact ⟨fun h => (by cases h), fun _ => ⟨fun h => (by cases h), fun _ => rfl⟩⟩
  | leaf a => exact ⟨fun _ => ⟨rfl, rfl⟩, fun h => by cases h⟩
  | inner ks b => exact ⟨fun h => (by cases h), fun _ => ⟨fun _ => ⟨rfl, rfl⟩, fun h => by cases h⟩⟩
theorem p53 : vc53 := by
  unfold vc53
  rintro ⟨x, ⟨⟩⟩ h
  exact ⟨h, rfl⟩
theorem allS_take {l : List Itm} {k : Nat} (d : Itm) (h : k < l.length) : allS (l.take (k + 1)) = addS (allS (l.take k)) (ofI (l.getD k d)) := by
  rw [take_one d h]
  simp [allS]
theorem sums_take {l : List Nd} {k : Nat} (h : k < l.length) : sums (l.take (k + 1)) = addS (sums (l.take k)) (sumOf (l.getD k .nil)) := by
  rw [take_one .nil h]
  simp [sums]
theorem d47 : Ty.dflt t47 = zItm := rfl
theorem p69 : vc69 := by
  unfold vc69
  simp only [eq_self, true_and, and_true, decide_eq_true_eq, decide_eq_false_iff_not]
  rintro ⟨l, ⟨⟩⟩
  simp only [maxLen_eq, d47]
  intro hl
  refine ⟨fun z => ∃ k : Nat, k ≤ l.length ∧ z.1 = (k : Int) ∧ ((z.2.1, (z.2.2.1, z.2.2.2.1, z.2.2.2.2.1, ()), z.2.2.2.2.2.1, z.2.2.2.2.2.2.1, ()) : Sm) = allS (l.take k), fun z => l.length - z.1.toNat, ⟨0, Nat.zero_le _, rfl, rfl⟩, ?_⟩
  rintro i a b c d e f ⟨k, hk, hi, hs⟩
  simp only at hi hs
  subst hi
  rw [hs]
  refine ⟨fun h => ?_, fun h => ?_⟩
  · have hlt : k < l.length := by omega
    have hw : IntKind.i64.wrap ((k : Int) + 1) = ((k + 1 : Nat) : Int) := wrap_succ (by omega)
    have ht := allS_take zItm hlt
    rw [toNat_cast, hw]
    simp only [toNat_cast]
    exact ⟨⟨by omega, h⟩, ⟨k + 1, hlt, rfl, by rw [ht]⟩, by omega⟩
  · have hke : k = l.length := by omega
    rw [hke, List.take_length]
theorem p56 : vc56 := by
  unfold vc56
  simp only [eq_self, true_and, and_true, decide_eq_true_eq, decide_eq_false_iff_not]
  rintro ⟨l, ⟨⟩⟩
  simp only [maxLen_eq]
  rintro ⟨hl0, hl⟩
  refine ⟨by omega, ?_⟩
  refine ⟨fun z => ∃ k : Nat, k ≤ l.length ∧ z.1 = (k : Int) ∧ ((z.2.1, (z.2.2.1, z.2.2.2.1, z.2.2.2.2.1, ()), z.2.2.2.2.2.1, z.2.2.2.2.2.2.1, ()) : Sm) = sums (l.take k), fun z => l.length - z.1.toNat, ⟨0, Nat.zero_le _, rfl, rfl⟩, ?_⟩
  rintro i a b c d e f ⟨k, hk, hi, hs⟩
  simp only at hi hs
  subst hi
  rw [hs]
  refine ⟨fun h => ?_, fun h => ?_⟩
  · have hlt : k < l.length := by omega
    have hw : IntKind.i64.wrap ((k : Int) + 1) = ((k + 1 : Nat) : Int) := wrap_succ (by omega)
    have ht := sums_take hlt
    rw [toNat_cast, hw]
    simp only [toNat_cast]
    have Zf : ∃ k' : Nat, k' ≤ l.length ∧ ((k + 1 : Nat) : Int) = (k' : Int) ∧ addS (sums (l.take k)) (sumOf (l.getD k .nil)) = sums (l.take k') := ⟨k + 1, hlt, rfl, ht.symm⟩
    have d : l.length - (k + 1) < l.length - k := by omega
    repeat' apply And.intro
    all_goals first
      | omega
      | exact Zf
      | exact d
  · have hke : k = l.length := by omega
    rw [hke, List.take_length]
    rfl
theorem half {n : Nat} (h : n ≤ 100000) : IntKind.i64.wrap (Int.tdiv (n : Int) 2) = ((n / 2 : Nat) : Int) := by
  rw [Int.tdiv_eq_ediv_of_nonneg (by omega), wrap_id (by omega) (by omega)]
  omega
theorem p70 : vc70 := by
  unfold vc70
  simp only [decide_eq_true_eq, decide_eq_false_iff_not, ne_eq]
  rintro ⟨l, ⟨⟩⟩
  simp only [maxLen_eq]
  rintro ⟨h1, h2⟩
  rw [half h2]
  simp only [toNat_cast]
  have e8 : ((l.length : Int) ≤ 8) = (l.length ≤ 8) := by rw [eq_iff_iff]; omega
  rw [e8]
  refine ⟨fun h => ⟨⟨h1, by omega⟩, rfl, ?_⟩, fun h => ?_⟩
  · unfold raise; rw [if_pos h]; rfl
  · have t1 : (l.take (l.length / 2)).length = l.length / 2 := by simp; omega
    have t2 : (l.drop (l.length / 2)).length = l.length - l.length / 2 := by simp
    have er : [NT.ofInner (some (l.take (l.length / 2), mkNx (l.take (l.length / 2)))), NT.ofInner (some (l.drop (l.length / 2), mkNx (l.drop (l.length / 2))))] = raise l := by
      unfold raise; rw [if_neg h]; rfl
    rw [t1, t2]
    (repeat' (first | apply And.intro | intro _))
    all_goals first
      | exact er
      | rfl
      | omega
theorem p72 : vc72 := by
  unfold vc72
  simp only [decide_eq_true_eq, decide_eq_false_iff_not, ne_eq]
  rintro ⟨l, ⟨⟩⟩
  simp only [maxLen_eq]
  intro h2
  rw [half h2]
  simp only [toNat_cast]
  have e8 : ((l.length : Int) ≤ 8) = (l.length ≤ 8) := by rw [eq_iff_iff]; omega
  rw [e8]
  refine ⟨fun h => ⟨by omega, rfl, ?_⟩, fun h => ?_⟩
  · unfold spread; rw [if_pos h]; rfl
  · have t1 : (l.take (l.length / 2)).length = l.length / 2 := by simp; omega
    have t2 : (l.drop (l.length / 2)).length = l.length - l.length / 2 := by simp
    have er : [NT.ofLeaf (some (mkLf (l.take (l.length / 2)))), NT.ofLeaf (some (mkLf (l.drop (l.length / 2))))] = spread l := by
      unfold spread; rw [if_neg h]; rfl
    rw [t1, t2]
    (repeat' (first | apply And.intro | intro _))
    all_goals first
      | exact er
      | rfl
      | omega
theorem p71 : vc71 := by
  unfold vc71
  try simp only [eq_self, true_and, and_true, decide_eq_true_eq, decide_eq_false_iff_not, beq_iff_eq, beq_eq_false_iff_ne, bne_iff_ne, bne_eq_false_iff_eq, Bool.not_eq_true', Bool.not_eq_false', ne_eq, imp_true_iff, implies_true]
  rintro ⟨a, b, ⟨⟩⟩
  simp only [maxLen_eq]
  rintro ⟨h1, h2⟩
  have hw : IntKind.i64.wrap ((a.length : Int) + (b.length : Int)) = (a.length : Int) + (b.length : Int) := wrap_id (by omega) (by omega)
  rw [hw]
  simp only [show Int.toNat 0 = 0 from rfl, List.replicate_zero, List.length_nil, List.nil_append]
  (repeat' (first | apply And.intro | intro _))
  all_goals first
    | omega
    | rfl
    | trivial
theorem p54 : vc54 := by
  unfold vc54
  simp only [beq_iff_eq, beq_eq_false_iff_ne, ne_eq]
  rintro ⟨l, ⟨⟩⟩
  simp only [maxLen_eq]
  intro h1
  unfold rowN
  refine ⟨fun h => by rw [if_pos (by omega)], fun h => ⟨fun h2 => ⟨by omega, by rw [if_neg (by omega), if_pos (by omega)]; rfl⟩, fun h2 => ⟨by omega, rfl, by rw [if_neg (by omega), if_neg (by omega)]; rfl⟩⟩⟩
theorem p30 : vc30 := by
  unfold vc30
  rintro ⟨s, ⟨⟩⟩ -
  cases s with
  | none => exact ⟨fun _ => rfl, fun h => by cases h⟩
  | some s => exact ⟨fun h => (by cases h), fun _ => ⟨rfl, rfl⟩⟩
theorem p22 : vc22 := by
  unfold vc22
  intro x _
  exact ⟨trivial, trivial, rfl⟩
theorem p24 : vc24 := by
  unfold vc24
  intro x _
  exact ⟨trivial, trivial, rfl⟩
theorem meld_gt {h k : Nat} {a b : Nd} (h100 : h ≤ 100) (k100 : k ≤ 100) (wa : Wf h true a) (wb : Wf k true b) (hgt : k < h) :
    (NT.asInner a).isSome = true ∧ 2 ≤ (kidsOf a).length ∧ (kidsOf a).length ≤ 8 ∧ Wf (h - 1) true ((kidsOf a).getD ((kidsOf a).length - 1) .nil) ∧
    meld a b = raise ((kidsOf a).take ((kidsOf a).length - 1) ++ meld ((kidsOf a).getD ((kidsOf a).length - 1) .nil) b) ∧ 1 ≤ (meld ((kidsOf a).getD ((kidsOf a).length - 1) .nil) b).length ∧ (meld ((kidsOf a).getD ((kidsOf a).length - 1) .nil) b).length ≤ 2 := by
  obtain ⟨ea, pa, na⟩ := wf_height wa
  obtain ⟨eb, pb, nb⟩ := wf_height wb
  obtain ⟨h', rfl⟩ : ∃ h', h = h' + 1 := ⟨h - 1, by omega⟩
  cases a with
  | nil => exact absurd rfl na
  | leaf a => have := wa.1; omega
  | inner ks bx =>
    have wa' := wa
    obtain ⟨w1, w2, w3, w4, w5, w6⟩ := wa
    simp only [if_true] at w2
    have wl := wf_top (w6 _ (getD_in .nil (show ks.length - 1 < ks.length by omega)))
    have el := (wf_height wl).1
    have e2 : meld (ks.getD (ks.length - 1) .nil) b = meldF (h' + k) (ks.getD (ks.length - 1) .nil) b := by
      unfold meld
      rw [el, eb]
      rfl
    have e1 : meld (.inner ks bx) b = meldF (h' + k + 1) (.inner ks bx) b := by
      unfold meld
      rw [ea, eb]
      congr 1
      omega
    obtain ⟨⟨i1, i2, _⟩, _⟩ := meld_ok (h' + k) h' k _ b (Nat.le_refl _) (by omega) k100 wl wb
    refine ⟨rfl, w2, w3, wl, ?_, ?_, ?_⟩
    · show _ = raise (ks.take (ks.length - 1) ++ meld (ks.getD (ks.length - 1) .nil) b)
      rw [e1, e2]
      show (if heightOf (.inner ks bx) > heightOf b then _ else _) = _
      rw [if_pos (by rw [ea, eb]; omega)]
      rfl
    · show 1 ≤ (meld (ks.getD (ks.length - 1) .nil) b).length
      rw [e2]; exact i1
    · show (meld (ks.getD (ks.length - 1) .nil) b).length ≤ 2
      rw [e2]; exact i2
theorem meld_lt {h k : Nat} {a b : Nd} (h100 : h ≤ 100) (k100 : k ≤ 100) (wa : Wf h true a) (wb : Wf k true b) (hgt : h < k) :
    (NT.asInner b).isSome = true ∧ 2 ≤ (kidsOf b).length ∧ (kidsOf b).length ≤ 8 ∧ Wf (k - 1) true ((kidsOf b).getD 0 .nil) ∧
    meld a b = raise (meld a ((kidsOf b).getD 0 .nil) ++ (kidsOf b).drop 1) ∧ 1 ≤ (meld a ((kidsOf b).getD 0 .nil)).length ∧ (meld a ((kidsOf b).getD 0 .nil)).length ≤ 2 := by
  obtain ⟨ea, pa, na⟩ := wf_height wa
  obtain ⟨eb, pb, nb⟩ := wf_height wb
  obtain ⟨k', rfl⟩ : ∃ k', k = k' + 1 := ⟨k - 1, by omega⟩
  cases b with
  | nil => exact absurd rfl nb
  | leaf b => have := wb.1; omega
  | inner ks bx =>
    obtain ⟨w1, w2, w3, w4, w5, w6⟩ := wb
    simp only [if_true] at w2
    have wl := wf_top (w6 _ (getD_in .nil (show 0 < ks.length by omega)))
    have el := (wf_height wl).1
    have e2 : meld a (ks.getD 0 .nil) = meldF (h + k') a (ks.getD 0 .nil) := by
      unfold meld
      rw [el, ea]
      rfl
    have e1 : meld a (.inner ks bx) = meldF (h + k' + 1) a (.inner ks bx) := by
      unfold meld
      rw [ea, eb]
      congr 1
    obtain ⟨⟨i1, i2, _⟩, _⟩ := meld_ok (h + k') h k' a _ (Nat.le_refl _) h100 (by omega) wa wl
    refine ⟨rfl, w2, w3, wl, ?_, ?_, ?_⟩
    · show _ = raise (meld a (ks.getD 0 .nil) ++ ks.drop 1)
      rw [e1, e2]
      show (if heightOf a > heightOf (.inner ks bx) then _ else _) = _
      rw [if_neg (by rw [ea, eb]; omega), if_pos (by rw [ea, eb]; omega)]
      rfl
    · show 1 ≤ (meld a (ks.getD 0 .nil)).length
      rw [e2]; exact i1
    · show (meld a (ks.getD 0 .nil)).length ≤ 2
      rw [e2]; exact i2
theorem meld_eq {h : Nat} {a b : Nd} (wa : Wf h true a) (wb : Wf h true b) :
    ((NT.asLeaf a).isSome = true ∧ (NT.asLeaf b).isSome = true ∧ (itemsOf a).length ≤ 8 ∧ (itemsOf b).length ≤ 8 ∧ meld a b = spread (itemsOf a ++ itemsOf b)) ∨
    ((NT.asLeaf a).isSome = false ∧ (NT.asInner a).isSome = true ∧ (NT.asInner b).isSome = true ∧ 2 ≤ (kidsOf a).length ∧ (kidsOf a).length ≤ 8 ∧ (kidsOf b).length ≤ 8 ∧ meld a b = raise (kidsOf a ++ kidsOf b)) := by
  obtain ⟨ea, pa, na⟩ := wf_height wa
  obtain ⟨eb, pb, nb⟩ := wf_height wb
  obtain ⟨h', rfl⟩ : ∃ h', h = h' + 1 := ⟨h - 1, by omega⟩
  have e1 : meld a b = if (NT.asLeaf a).isSome = true then spread (itemsOf a ++ itemsOf b) else raise (kidsOf a ++ kidsOf b) := by
    have : meld a b = meldF (h' + 1 + h' + 1) a b := by
      unfold meld
      rw [ea, eb]
      congr 1
    rw [this]
    show (if heightOf a > heightOf b then _ else _) = _
    rw [if_neg (by rw [ea, eb]; omega), if_neg (by rw [ea, eb]; omega)]
  rw [e1]
  cases a with
  | nil => exact absurd rfl na
  | leaf a =>
    have h0 := wa.1
    subst h0
    cases b with
    | nil => exact absurd rfl nb
    | inner ks bx => exact absurd wb.1 (by decide)
    | leaf b => exact .inl ⟨rfl, rfl, wa.2.2.1, wb.2.2.1, rfl⟩
  | inner ks bx =>
    cases b with
    | nil => exact absurd rfl nb
    | leaf b => have := wb.1; have := wa.1; omega
    | inner ls by_ =>
      have := wa.2.1
      simp only [if_true] at this
      exact .inr ⟨rfl, rfl, rfl, this, wa.2.2.1, wb.2.2.1, rfl⟩
theorem p55 (n : Nat) : vc55 n := by
  unfold vc55
  simp only [true_and, decide_eq_true_eq, decide_eq_false_iff_not]
  rintro ⟨a, b, ⟨⟩⟩
  simp only [maxLen_eq, ka', la']
  rintro ⟨⟨h, k, h100, k100, wa, wb⟩, hmu⟩
  obtain ⟨ea, pa, na⟩ := wf_height wa
  obtain ⟨eb, pb, nb⟩ := wf_height wb
  have hmu : h + k < n + 1 := by
    unfold muMeld at hmu
    rw [ea, eb] at hmu
    exact hmu
  rw [ea, eb]
  refine ⟨fun h1 => ?_, fun h1 => ⟨fun h2 => ?_, fun h2 => ?_⟩⟩
  · obtain ⟨m1, m2, m3, m4, m5, m6, m7⟩ := meld_gt h100 k100 wa wb (by omega)
    have hw : IntKind.i64.wrap (((kidsOf a).length : Int) - 1) = (((kidsOf a).length - 1 : Nat) : Int) := by rw [wrap_id (by omega) (by omega)]; omega
    rw [hw]
    simp only [toNat_cast]
    have mu : muMeld ((kidsOf a).getD ((kidsOf a).length - 1) .nil, b, ()) < n := by
      unfold muMeld
      rw [(wf_height m4).1, eb]
      simp only [Int.toNat_natCast]
      omega
    have pre : ∃ h' k' : Nat, h' ≤ 100 ∧ k' ≤ 100 ∧ Wf h' true ((kidsOf a).getD ((kidsOf a).length - 1) .nil) ∧ Wf k' true b := ⟨h - 1, k, by omega, k100, m4, wb⟩
    have tl : ((kidsOf a).take ((kidsOf a).length - 1)).length = (kidsOf a).length - 1 := by rw [List.length_take]; omega
    simp only [List.length_append, tl]
    have fin := m5.symm
    (repeat' (first | apply And.intro | intro _))
    all_goals first
      | exact m1
      | exact pre
      | exact mu
      | exact fin
      | omega
  · obtain ⟨m1, m2, m3, m4, m5, m6, m7⟩ := meld_lt h100 k100 wa wb (by omega)
    simp only [show Int.toNat 0 = 0 from rfl, show Int.toNat 1 = 1 from rfl]
    have mu : muMeld (a, (kidsOf b).getD 0 .nil, ()) < n := by
      unfold muMeld
      rw [(wf_height m4).1, ea]
      simp only [Int.toNat_natCast]
      omega
    have pre : ∃ h' k' : Nat, h' ≤ 100 ∧ k' ≤ 100 ∧ Wf h' true a ∧ Wf k' true ((kidsOf b).getD 0 .nil) := ⟨h, k - 1, h100, by omega, wa, m4⟩
    simp only [List.length_append, List.length_drop]
    have fin := m5.symm
    (repeat' (first | apply And.intro | intro _))
    all_goals first
      | exact m1
      | exact pre
      | exact mu
      | exact fin
      | omega
  · have hk : h = k := by omega
    subst hk
    rcases meld_eq wa wb with ⟨m1, m2, m3, m4, m5⟩ | ⟨m1, m2, m3, m4, m5, m6, m7⟩
    · have hw : IntKind.i64.wrap (((itemsOf a).length : Int) + ((itemsOf b).length : Int)) = ((itemsOf a).length : Int) + ((itemsOf b).length : Int) := wrap_id (by omega) (by omega)
      rw [hw]
      simp only [show Int.toNat 0 = 0 from rfl, List.replicate_zero, List.length_nil, List.nil_append, List.length_append]
      have fin := m5.symm
      refine ⟨fun _ => ?_, fun hh => by rw [m1] at hh; cases hh⟩
      clear h1 h2 hmu ea eb na nb wa wb
      repeat' apply And.intro
      all_goals first
        | exact m1
        | exact m2
        | exact fin
        | omega
    · simp only [List.length_append]
      have fin := m7.symm
      refine ⟨fun hh => (by rw [m1] at hh; cases hh), fun _ => ?_⟩
      clear h1 h2 hmu ea eb na nb wa wb
      repeat' apply And.intro
      all_goals first
        | exact m2
        | exact m3
        | exact fin
        | omega
theorem p39 : vc39 := by
  unfold vc39
  simp only [beq_iff_eq, beq_eq_false_iff_ne, ne_eq]
  rintro ⟨a, b, ⟨⟩⟩
  simp only [maxLen_eq]
  rintro ⟨wa, wb⟩
  unfold join
  refine ⟨fun h => by rw [if_pos h], fun h1 => ⟨fun h2 => by rw [if_neg (by rw [h1]; decide), if_pos h2], fun h2 => ?_⟩⟩
  rw [if_neg (by rw [h1]; decide), if_neg (by rw [h2]; decide)]
  obtain ⟨h, h100, wa⟩ := wa.resolve_left (isNil_f.1 h1)
  obtain ⟨k, k100, wb⟩ := wb.resolve_left (isNil_f.1 h2)
  have em : meld a b = meldF (h + k) a b := by
    unfold meld
    rw [(wf_height wa).1, (wf_height wb).1]
    rfl
  obtain ⟨⟨m1, m2, m3, m4, m5⟩, _, _⟩ := meld_ok (h + k) h k a b (Nat.le_refl _) h100 k100 wa wb
  rw [← em] at m1 m2
  refine ⟨⟨h, k, h100, k100, wa, wb⟩, fun h3 => ⟨by omega, by rw [if_pos (by omega)]; rfl⟩, fun h3 => ⟨by omega, rfl, by rw [if_neg (by omega)]; rfl⟩⟩
theorem p37 : vc37 := by
  unfold vc37
  simp only [eq_self, true_and, and_true, decide_eq_true_eq, decide_eq_false_iff_not, beq_iff_eq, beq_eq_false_iff_ne, bne_iff_ne, bne_eq_false_iff_eq, ne_eq]
  rintro ⟨l, ⟨⟩⟩
  simp only [maxLen_eq, d47]
  intro hl
  refine ⟨fun h => by unfold newT; rw [if_pos (by omega)], fun h => ?_⟩
  have hl3 : l.length ≤ 30000 := by omega
  have fin : ∀ t, t = newT l ↔ t = if (l.all fun x => decide (checkI x = 0)) = true then (some (buildT l, ()), 0, ()) else (none, 1, ()) := fun t => by
    unfold newT
    rw [if_neg (by omega)]
  simp only [fin]
  refine ⟨fun z => ∃ k : Nat, k ≤ l.length ∧ z.2.1 = (k : Int) ∧ z.1 = build l ((k + 7) / 8) ∧ ∀ j, j < k → checkI (l.getD j zItm) = 0, fun z => l.length - z.2.1.toNat, ⟨0, Nat.zero_le _, rfl, rfl, fun j hj => by omega⟩, ?_⟩
  rintro root i ⟨k, hk, hi, hr, hc⟩
  simp only at hi hr
  subst hi
  refine ⟨fun h1 => ?_, fun h1 => ?_⟩
  · have hlt : k < l.length := by omega
    have hw : IntKind.i64.wrap ((k : Int) + 1) = ((k + 1 : Nat) : Int) := wrap_succ (by omega)
    rw [toNat_cast, hw]
    simp only [toNat_cast]
    have dec : l.length - (k + 1) < l.length - k := by omega
    refine ⟨⟨by omega, h1⟩, fun h2 => ?_, fun h2 => ⟨by decide, fun h3 => ?_, fun h3 => ⟨⟨k + 1, hlt, rfl, ?_, ?_⟩, dec⟩⟩⟩
    · have hna : (l.all fun x => decide (checkI x = 0)) = false := by
        rw [List.all_eq_false]
        refine ⟨l.getD k zItm, getD_in zItm hlt, ?_⟩
        simpa using h2
      rw [hna, if_neg (by decide)]
      have : checkI (l.getD k zItm) = 1 := by
        unfold checkI at h2 ⊢
        split at h2
        · exact absurd rfl h2
        · rename_i hh
          rw [if_neg hh]
      rw [this]
    · have hk8 : k % 8 = 0 := by
        rw [Int.tmod_eq_emod_of_nonneg (by omega)] at h3
        omega
      have hws : IntKind.i64.wrap ((l.length : Int) - (k : Int)) = (l.length : Int) - (k : Int) := wrap_id (by omega) (by omega)
      rw [hws]
      have hm : (if (l.length : Int) - (k : Int) < 8 then (l.length : Int) - (k : Int) else 8) = ((min 8 (l.length - k) : Nat) : Int) := by
        split <;> omega
      rw [hm]
      simp only [toNat_cast, List.length_replicate, List.length_drop]
      have hdr : (List.replicate (min 8 (l.length - k)) ((0, 0, (0, 0, 0, ()), 0, ByteArray.empty, ()) : Itm)).drop (l.length - k) = [] := by
        rw [List.drop_eq_nil_iff, List.length_replicate]; omega
      rw [hdr, List.append_nil]
      have htk : (l.drop k).take (min 8 (l.length - k)) = (l.drop k).take 8 := by
        by_cases h8 : 8 ≤ l.length - k
        · rw [show min 8 (l.length - k) = 8 by omega]
        · rw [show min 8 (l.length - k) = l.length - k by omega, List.take_of_length_le (by simp), List.take_of_length_le (by simp; omega)]
      rw [htk]
      have hlen : ((l.drop k).take 8).length = min 8 (l.length - k) := by rw [List.length_take, List.length_drop]
      rw [hlen]
      obtain ⟨b1, b2⟩ := build_ok l hl ((k + 7) / 8) (by omega)
      have wl : WfN (NT.ofLeaf (some (mkLf ((l.drop k).take 8)))) := .inr ⟨1, by omega, wf_leaf (by rw [hlen]; simp; omega) (by rw [hlen]; omega)⟩
      have ej : join root (NT.ofLeaf (some (mkLf ((l.drop k).take 8)))) = build l ((k + 1 + 7) / 8) := by
        have e1 : (k + 1 + 7) / 8 = (k + 7) / 8 + 1 := by omega
        have e2 : 8 * ((k + 7) / 8) = k := by omega
        rw [e1]
        show _ = join (build l ((k + 7) / 8)) (mkLeaf ((l.drop (8 * ((k + 7) / 8))).take 8))
        rw [e2, hr]
        rfl
      rw [ej]
      have hc' : ∀ j, j < k + 1 → checkI (l.getD j zItm) = 0 := fun j hj => by
        by_cases e : j = k
        · subst e; exact h2
        · exact hc j (by omega)
      refine ⟨⟨by omega, by omega, by omega, by omega⟩, ⟨by omega, by omega⟩, by omega, rfl, ⟨by rw [hr]; exact b1, wl⟩, ⟨k + 1, hlt, rfl, rfl, hc'⟩, dec⟩
    · have hk8 : ¬ k % 8 = 0 := by
        rw [Int.tmod_eq_emod_of_nonneg (by omega)] at h3
        omega
      rw [hr, show (k + 1 + 7) / 8 = (k + 7) / 8 by omega]
    · intro j hj
      by_cases e : j = k
      · subst e; exact h2
      · exact hc j (by omega)
  · have hke : k = l.length := by omega
    subst hke
    have ha : (l.all fun x => decide (checkI x = 0)) = true := by
      rw [List.all_eq_true]
      intro x hx
      obtain ⟨j, hj, e⟩ := List.getElem_of_mem hx
      have := hc j hj
      rw [getD_of zItm hj, e] at this
      exact decide_eq_true this
    rw [if_pos ha, hr]
    rfl
end Go.Fr.D16
namespace Go.Fr.D16
open Go Go.Fr Go.Proofs
def foldC (n : Int) : Itm := (1, 0, (n, 1, 0, ()), 0, ByteArray.empty, ())
def plainC (n : Int) : Itm := (0, 0, (n, n, 0, ()), 0, ByteArray.empty, ())
def rightL (n : Int) : Int → List Span → Bool
  | _, [] => true
  | last, x :: r => if x.1 < last ∨ x.2.1 ≤ x.1 ∨ x.2.1 > n then false else rightL n x.2.1 r
abbrev nW (w : Wve) : Int := (sumOf (topT (treeOf w))).2.1.1
abbrev mW (w : Wve) : Int := (sumOf (topT (treeOf w))).2.1.2.1
def placesC (w : Wve) (l : List Span) : List Span := l.map fun x => ((outW w x.1 1).1, (outW w x.2.1 0).1, ())
def rowC (t : Int) : Int → List Span → List Itm
  | f, [] => if t > f then [plainC (w64 (t - f))] else []
  | f, x :: r => if x.1 > f then plainC (w64 (x.1 - f)) :: foldC (w64 (x.2.1 - x.1)) :: rowC t x.2.1 r else foldC (w64 (x.2.1 - x.1)) :: rowC t x.2.1 r
def newC (w : Wve) (l : List Span) : Wve × Int × Unit :=
  if rightL (nW w) 0 l = false then (none, 1, ())
  else if (newT (rowC (mW w) 0 (placesC w l))).2.1 ≠ 0 then (none, (newT (rowC (mW w) 0 (placesC w l))).2.1, ()) else (some ((newT (rowC (mW w) 0 (placesC w l))).1, ()), 0, ())
def piecesC (t : Tre) : List Pce := (items (topT t)).map fun i => (if i.1 = 1 then i.2.2.1.1 else 0, i.2.2.1.2.1, ())
def outCr (c : Wve) (a : Int) : Int × Int × Unit :=
  if (findT (treeOf c) 0 a 1).2.1 ≠ 0 then (0, (findT (treeOf c) 0 a 1).2.1, ())
  else if (atT (treeOf c) (findT (treeOf c) 0 a 1).1.1).1.1 = 1 then ((findT (treeOf c) 0 a 1).1.2.1.2.1.2.1, 0, ())
  else (w64 (w64 ((findT (treeOf c) 0 a 1).1.2.1.2.1.2.1 + a) - (findT (treeOf c) 0 a 1).1.2.1.2.1.1), 0, ())
def inCr (c : Wve) (a : Int) : Int × Int × Unit :=
  if (findT (treeOf c) 1 a 1).2.1 ≠ 0 then (0, (findT (treeOf c) 1 a 1).2.1, ())
  else (w64 (w64 ((findT (treeOf c) 1 a 1).1.2.1.2.1.1 + a) - (findT (treeOf c) 1 a 1).1.2.1.2.1.2.1), 0, ())
def acrossS (x : Span) (a : Int) : Bool := decide (x.1 < a) && decide (a < x.2.1)
def withinC (l : List Span) (s : Span) : List Span × Bool × Unit :=
  if (l.any fun x => acrossS x s.1 || acrossS x s.2.1) = true then ([], false, ()) else (l.filter fun x => decide (x.1 ≥ s.1) && decide (x.2.1 ≤ s.2.1), true, ())
def edA (c : Wve) (old : Span) : Plc := (findT (treeOf c) 0 old.1 0).1
def edI (c : Wve) (old : Span) : Itm × Int × Unit := atT (treeOf c) (edA c old).1
def edB (c : Wve) (old : Span) : Plc := (findT (treeOf c) 0 old.2.1 1).1
def edJ (c : Wve) (old : Span) : Itm × Int × Unit := atT (treeOf c) (edB c old).1
def spanI (p : Plc) (i : Itm) : Span := (p.2.1.2.1.1, w64 (p.2.1.2.1.1 + i.2.2.1.1), ())
def edFirst (c : Wve) (old : Span) : Int :=
  if (edI c old).2.1 = 0 then (if (edI c old).1.1 = 0 then (edA c old).1 else if (spanI (edA c old) (edI c old).1).2.1 = old.1 then w64 ((edA c old).1 + 1) else (edA c old).1) else (edA c old).1
def edFrom (c : Wve) (old now : Span) : Int := if (edI c old).2.1 = 0 ∧ (edI c old).1.1 = 0 then (spanI (edA c old) (edI c old).1).1 else now.1
def edBad1 (c : Wve) (old : Span) : Bool := decide ((edI c old).2.1 = 0) && (!decide ((edI c old).1.1 = 0) && acrossS (spanI (edA c old) (edI c old).1) old.1)
def edBad2 (c : Wve) (old : Span) : Bool := decide ((edJ c old).2.1 = 0) && (!decide ((edJ c old).1.1 = 0) && acrossS (spanI (edB c old) (edJ c old).1) old.2.1)
def edTo (c : Wve) (old now : Span) : Int := if (edJ c old).2.1 = 0 ∧ (edJ c old).1.1 = 0 then w64 (now.2.1 + w64 ((spanI (edB c old) (edJ c old).1).2.1 - old.2.1)) else now.2.1
def edLast (c : Wve) (old : Span) : Int := if (edJ c old).2.1 = 0 ∧ (edJ c old).1.1 = 0 then w64 ((edB c old).1 + 1) else (edB c old).1
def edgesC (c : Wve) (old now : Span) : Int × Int × Span × Bool × Unit :=
  if edBad1 c old = true then (0, 0, now, false, ())
  else if edBad2 c old = true then (0, 0, (edFrom c old now, now.2.1, ()), false, ())
  else (edFirst c old, maxI (edFirst c old) (edLast c old), (edFrom c old now, edTo c old now, ()), true, ())
def updCR (c : Wve) (old now : Span) (w : Wve) (l : List Span) : Tre × Int × Unit :=
  replT (treeOf c) (edgesC c old now).1 (edgesC c old now).2.1 (rowC (edgesC c old now).2.2.1.2.1 (edgesC c old now).2.2.1.1 (withinC (placesC w l) now).1)
def updC (c : Wve) (old now : Span) (w : Wve) (l : List Span) : Wve × Int × Unit :=
  if (rightL (nW w) 0 l && (fitsW old (nW c) && (fitsW now (mW w) && (decide (old.1 = now.1) && decide (w64 (nW c - old.2.1) = w64 (mW w - now.2.1)))))) = false then (none, 1, ())
  else if ((withinC (placesC w l) now).2.1 && (edgesC c old now).2.2.2.1) = false then (none, 1, ())
  else if (updCR c old now w l).2.1 ≠ 0 then (none, (updCR c old now w l).2.1, ()) else (some ((updCR c old now w l).1, ()), 0, ())
def refPlaces (s : WSet) (l : List Span) : List Span := l.map fun x => (refOut s x.1 1, refOut s x.2.1 0, ())
def hidesF (a : Int) : Int → List Span → Int
  | _, [] => -1
  | i, x :: r => if x.1 ≤ a ∧ a < x.2.1 then i else hidesF a (i + 1) r
def hidesI (l : List Span) (a : Int) : Int := hidesF a 0 l
def hidX (l : List Span) (a : Int) : Option Span := l.find? fun x => decide (x.1 ≤ a ∧ a < x.2.1)
def zSp : Span := (0, 0, ())
def startB (l : List Span) (a : Int) : Bool := decide (hidesI l a < 0) || decide ((l.getD (hidesI l a).toNat zSp).1 = a)
def starts (n : Int) (l : List Span) : List Int := ((List.range n.toNat).map fun k : Nat => (k : Int)).filter (startB l)
def lowT (t : Nd) : Prop := (t = .nil ∨ ∃ h : Nat, h ≤ 4 ∧ Wf h true t) ∧ (items t).length ≤ 10000
def cPlainC : Contract := { arg := .pair t3 .unit, res := t47, one := true, pre := fun _ => True, fn := fun x => plainC x.1 }
def cFoldC : Contract := { arg := .pair t3 .unit, res := t47, one := true, pre := fun _ => True, fn := fun x => foldC x.1 }
def cRightC : Contract := { arg := .pair t50 (.pair t51 .unit), res := .bool, one := true, pre := fun x => x.2.1.length ≤ maxLen, fn := fun x => rightL (nW x.1) 0 x.2.1 }
def cPlacesC : Contract := { arg := .pair t50 (.pair t51 .unit), res := t51, one := true, pre := fun x => WfN (topT (treeOf x.1)) ∧ x.2.1.length ≤ 100000, fn := fun x => placesC x.1 x.2.1 }
def cRowC : Contract := { arg := .pair t3 (.pair t3 (.pair t51 .unit)), res := t61, one := true, pre := fun x => x.2.2.1.length ≤ 10000, fn := fun x => rowC x.2.1 x.1 x.2.2.1 }
def cNewC : Contract := { arg := .pair t50 (.pair t51 .unit), res := .pair t22 (.pair t23 .unit), one := false, pre := fun x => WfN (topT (treeOf x.1)) ∧ x.2.1.length ≤ 10000, fn := fun x => newC x.1 x.2.1 }
def cTreeC : Contract := { arg := .pair t22 .unit, res := t43, one := true, pre := fun _ => True, fn := fun x => treeOf x.1 }
def cPiecesC : Contract := { arg := .pair t22 .unit, res := t32, one := true, pre := fun x => lowT (topT (treeOf x.1)), fn := fun x => piecesC (treeOf x.1) }
def cSizesC : Contract := { arg := .pair t22 .unit, res := .pair t3 (.pair t3 .unit), one := false, pre := fun _ => True, fn := fun x => (nW x.1, mW x.1, ()) }
def cHeightC : Contract := { arg := .pair t22 .unit, res := t3, one := true, pre := fun _ => True, fn := fun x => heightOf (topT (treeOf x.1)) }
def cOutC : Contract := { arg := .pair t22 (.pair t3 .unit), res := .pair t3 (.pair t23 .unit), one := false, pre := fun x => okTre (treeOf x.1), fn := fun x => outCr x.1 x.2.1 }
def cInC : Contract := { arg := .pair t22 (.pair t3 .unit), res := .pair t3 (.pair t23 .unit), one := false, pre := fun x => WfN (topT (treeOf x.1)), fn := fun x => inCr x.1 x.2.1 }
def cAcross : Contract := { arg := .pair t29 (.pair t3 .unit), res := .bool, one := true, pre := fun _ => True, fn := fun x => acrossS x.1 x.2.1 }
def cWithinC : Contract := { arg := .pair t51 (.pair t29 .unit), res := .pair t51 (.pair .bool .unit), one := false, pre := fun x => x.1.length ≤ 100000, fn := fun x => withinC x.1 x.2.1 }
def cEdges : Contract := { arg := .pair t22 (.pair t29 (.pair t29 .unit)), res := .pair t3 (.pair t3 (.pair t29 (.pair .bool .unit))), one := false, pre := fun x => okTre (treeOf x.1), fn := fun x => edgesC x.1 x.2.1 x.2.2.1 }
def cUpdC : Contract := { arg := .pair t22 (.pair t29 (.pair t29 (.pair t50 (.pair t51 .unit)))), res := .pair t22 (.pair t23 .unit), one := false, pre := fun x => okTre (treeOf x.1) ∧ WfN (topT (treeOf x.2.2.2.1)) ∧ x.2.2.2.2.1.length ≤ 10000, fn := fun x => updC x.1 x.2.1 x.2.2.1 x.2.2.2.1 x.2.2.2.2.1 }
def cSix : Contract := { arg := .unit, res := .bool, one := true, pre := fun _ => True, fn := fun _ => true }
def cCreaseNil : Contract := lawC (.pair t3 .unit) (fun _ => True)
end Go.Fr.D16
namespace Go.Fr.D16
open Go Go.Fr Go.Proofs
set_option maxRecDepth 100000
def hs12 : List (Nat × Nat × Hint) := [(0, 7, ⟨[.slot 13 t75, .cell 12 1 t3, .cell 12 2 t3, .cell 12 3 t3, .cell 12 4 t3, .cell 12 5 t3, .cell 12 6 t3, .cell 12 7 t3], [1, 8, 11, 12], [8, 12, 6, 7], []⟩),
  (0, 13, ⟨[.slot 13 t75, .slot 74 t3, .cell 12 1 t3, .cell 12 2 t3, .cell 12 3 t3, .cell 12 4 t3, .cell 12 5 t3, .cell 12 6 t3], [1, 8, 11, 12, 72, 73], [8, 12, 6, 7], []⟩),
  (0, 23, ⟨[.slot 103 t3, .cell 12 1 t3, .cell 12 2 t3, .cell 12 3 t3, .cell 12 4 t3, .cell 12 5 t3, .cell 12 6 t3], [1, 8, 11, 12, 101, 102], [8, 12, 6, 7], []⟩)]
def nm12 : List Nat := [3000000047]
noncomputable def E12 : Env := env tab [(22, cSum), (28, cSizeD), (30, cTop), (32, cSumOf), (31, cAddS), (33, cOfI)] [(29, Tryd.f29)] gl hs12 nm12
def vc12 : Prop :=
 ∀ (x : Option (Nd × Unit) × Int × Int × Int × Unit),
 let y := x.snd.snd;
 let y_1 := x.snd.fst;
 let y_2 := (topT x.fst, (0 : Int), (0 : Int), (0 : Int), (0 : Int), (0 : Int), (0 : Int), (0 : Int), ());
 let y_3 := x.fst;
 let y_4 := findT y_3 y_1 y.fst y.snd.fst;
 let y_5 := y.snd.fst;
 let y := y.fst;
 let y_6 := decide (y > sizeD (sumOf (topT y_3)) y_1);
 let y_7 := y_5 == (0 : Int);
 WfN (topT y_3) →
 True ∧
 (decide (y_1 < (0 : Int)) = true →
 (((0 : Int), ((0 : Int), ((0 : Int), (0 : Int), (0 : Int), ()), (0 : Int), (0 : Int), ()), (0 : Int), ()),
 (1 : Int), ()) =
 y_4) ∧
 (decide (y_1 < (0 : Int)) = false →
 (decide (y_1 > (3 : Int)) = true →
 (((0 : Int), ((0 : Int), ((0 : Int), (0 : Int), (0 : Int), ()), (0 : Int), (0 : Int), ()), (0 : Int), ()),
 (1 : Int), ()) =
 y_4) ∧
 (decide (y_1 > (3 : Int)) = false →
 (decide (y < (0 : Int)) = true →
 (((0 : Int), ((0 : Int), ((0 : Int), (0 : Int), (0 : Int), ()), (0 : Int), (0 : Int), ()), (0 : Int),
 ()),
 (1 : Int), ()) =
 y_4) ∧
 (decide (y < (0 : Int)) = false →
 ((0 : Int) ≤ y_1 ∧ y_1 ≤ (3 : Int)) ∧
 (y_6 = true →
 (((0 : Int), ((0 : Int), ((0 : Int), (0 : Int), (0 : Int), ()), (0 : Int), (0 : Int), ()),
 (0 : Int), ()),
 (1 : Int), ()) =
 y_4) ∧
 (y_6 = false →
 ((y_5 != (0 : Int)) = true →
 ((y_5 != (1 : Int)) = true →
 (((0 : Int),
 ((0 : Int), ((0 : Int), (0 : Int), (0 : Int), ()), (0 : Int), (0 : Int), ()),
 (0 : Int), ()),
 (1 : Int), ()) =
 y_4) ∧
 ((y_5 != (1 : Int)) = false →
 True ∧
 ((topT y_3 = topT y_3 ∧ y_1 = y_1 ∧ True ∧ (True ∧ True) ∧ True) ∧
 ((0 : Int) = (0 : Int) ∧
 (0 : Int) = (0 : Int) ∧
 (0 : Int) = (0 : Int) ∧
 (0 : Int) = (0 : Int) ∧
 (0 : Int) = (0 : Int) ∧
 (0 : Int) = (0 : Int) ∧
 (0 : Int) = (0 : Int) ∧ (0 : Int) = (0 : Int)) ∧
 ((0 : Int) = (0 : Int) ∧
 (0 : Int) = (0 : Int) ∧
 (0 : Int) = (0 : Int) ∧
 (0 : Int) = (0 : Int) ∧
 (0 : Int) = (0 : Int) ∧
 (0 : Int) = (0 : Int) ∧
 (0 : Int) = (0 : Int) ∧ (0 : Int) = (0 : Int)) ∧
 y = y ∧ y_5 = y_5) ∧
 ∃ (Z :
 Nd ×
 Int × Int × Int × Int × Int × Int × Int × Unit →
 Prop),
 ∃ (μ :
 Nd ×
 Int × Int × Int × Int × Int × Int × Int × Unit →
 Nat),
 Z y_2 ∧
 ∀ (a : Nd),
 let y_8 :=  (List.getD (optL (NT.asInner a)) (0 : Nat)  (([], (0, zS, ())) : List Nd × Nx)).fst;
 let y_9 := (List.getD (optL (NT.asLeaf a)) (0 : Nat) (([], zS, ()) : Lf)).fst;
 let y_10 := Option.isSome (NT.asLeaf a);
 let y_11 := !Option.isSome (NT.asInner a);
 let y_12 := (↑(List.length y_9) : Int);
 let y_13 := (↑(List.length y_8) : Int);
 ∀ (a_1 a_2 a_3 a_4 : Int),
 let y_14 := (a_2, a_3, a_4, ());
 ∀ (a_5 a_6 : Int),
 let y_15 := (a_1, a_2, a_3, a_4, a_5, a_6, ());
 let y_16 := (a_1, y_14, a_5, a_6, ());
 let y_17 := ((0 : Int), y_15);
 ∀ (a_7 : Int),
 let y_18 := (a, a_1, a_2, a_3, a_4, a_5, a_6, a_7, ());
 let y_19 := IntKind.wrap IntKind.i64 (a_7 + (1 : Int));
 let y_20 := (y_19, ());
 Z y_18 →
 ((!NT.isNil a) = true →
 (y_11 = true →
 (y_10 = true →
 y_10 = true ∧
 (((0 : Int) = (0 : Int) ∧
 y_1 = y_1 ∧
 True ∧
 (True ∧ True) ∧
 True ∧ y_9 = y_9 ∧ y_12 = y_12) ∧
 ((0 : Int) = (0 : Int) ∧
 (0 : Int) = (0 : Int) ∧
 (0 : Int) = (0 : Int) ∧
 (0 : Int) = (0 : Int) ∧
 (0 : Int) = (0 : Int) ∧
 (0 : Int) = (0 : Int) ∧
 (0 : Int) = (0 : Int) ∧
 (0 : Int) = (0 : Int)) ∧
 ((0 : Int) = (0 : Int) ∧
 a_1 = a_1 ∧
 a_2 = a_2 ∧
 a_3 = a_3 ∧
 a_4 = a_4 ∧
 a_5 = a_5 ∧
 a_6 = a_6 ∧ y_19 = y_19) ∧
 y = y ∧ y_5 = y_5) ∧
 ∃ (Z :
 Int × Int × Int × Int × Int × Int × Int × Unit →
 Prop),
 ∃ (μ :
 Int × Int × Int × Int × Int × Int × Int × Unit →
 Nat),
 Z y_17 ∧
 ∀ (a : Int),
 let y_21 :=  ofI  (List.getD y_9 (Int.toNat a)  (Ty.dflt t47));
 let y_22 :=  IntKind.wrap IntKind.i64 (a + (1 : Int));
 ∀ (a_10 a_11 a_12 a_13 : Int),
 let y_23 := (a_11, a_12, a_13, ());
 ∀ (a_14 a_15 : Int),
 let y_24 :=  (y_22,  (addS (a_10, y_23, a_14, a_15, ())  y_21).fst,  (addS (a_10, y_23, a_14, a_15, ())  y_21).snd.fst.fst,  (addS (a_10, y_23, a_14, a_15, ())  y_21).snd.fst.snd.fst,  (addS (a_10, y_23, a_14, a_15, ())  y_21).snd.fst.snd.snd.fst,  (addS (a_10, y_23, a_14, a_15, ())  y_21).snd.snd);
 let y_25 :=  (a_10, y_23, a_14, a_15, ());
 let y_26 :=  (a, a_10, a_11, a_12, a_13, a_14,  a_15, ());
 let y_27 := (addS y_25 y_21).snd;
 let y_28 :=  ((a_10, y_25, y_19, ()), (0 : Int),  ());
 let y_29 := (addS y_25 y_21).fst;
 let y_30 := y_27.fst.snd;
 let y_31 := y_27.snd;
 let y_32 := y_27.fst.fst;
 let y_33 := y_31.snd.fst;
 let y_34 := y_31.fst;
 let y_35 := y_30.snd.fst;
 let y_36 := y_30.fst;
 Z y_26 →
 (decide (a < y_12) = true →
 ((0 : Int) ≤ a ∧ a < y_12) ∧
 True ∧
 True ∧
 ((0 : Int) ≤ y_1 ∧
 y_1 ≤ (3 : Int)) ∧
 (decide
 (sizeD
 (addS y_25
 y_21)
 y_1 >
 y) =
 true →
 y_28 = y_4) ∧
 (decide
 (sizeD
 (addS y_25
 y_21)
 y_1 >
 y) =
 false →
 (y_7 = true →
 ((sizeD
 (addS
 y_25
 y_21)
 y_1 ==
 y) =
 true →
 y_28 = y_4) ∧
 ((sizeD
 (addS
 y_25
 y_21)
 y_1 ==
 y) =
 false →
 ((y_22 =
 y_22 ∧
 y_1 =
 y_1 ∧
 True ∧
 (True ∧
 True) ∧
 True ∧
 y_9 =
 y_9 ∧
 y_12 =
 y_12) ∧
 ((0 :
 Int) =
 (0 :
 Int) ∧
 (0 :
 Int) =
 (0 :
 Int) ∧
 (0 :
 Int) =
 (0 :
 Int) ∧
 (0 :
 Int) =
 (0 :
 Int) ∧
 (0 :
 Int) =
 (0 :
 Int) ∧
 (0 :
 Int) =
 (0 :
 Int) ∧
 (0 :
 Int) =
 (0 :
 Int) ∧
 (0 :
 Int) =
 (0 :
 Int)) ∧
 ((0 :
 Int) =
 (0 :
 Int) ∧
 y_29 =
 y_29 ∧
 y_32 =
 y_32 ∧
 y_36 =
 y_36 ∧
 y_35 =
 y_35 ∧
 y_31.fst =
 y_34 ∧
 y_31.snd.fst =
 y_33 ∧
 y_19 =
 y_19) ∧
 y =
 y ∧
 y_5 =
 y_5) ∧
 Z y_24 ∧
 μ y_24 <
 μ
 y_26)) ∧
 (y_7 = false →
 ((y_22 = y_22 ∧
 y_1 = y_1 ∧
 True ∧
 (True ∧
 True) ∧
 True ∧
 y_9 =
 y_9 ∧
 y_12 =
 y_12) ∧
 ((0 : Int) =
 (0 :
 Int) ∧
 (0 :
 Int) =
 (0 :
 Int) ∧
 (0 :
 Int) =
 (0 :
 Int) ∧
 (0 :
 Int) =
 (0 :
 Int) ∧
 (0 :
 Int) =
 (0 :
 Int) ∧
 (0 :
 Int) =
 (0 :
 Int) ∧
 (0 :
 Int) =
 (0 :
 Int) ∧
 (0 :
 Int) =
 (0 :
 Int)) ∧
 ((0 : Int) =
 (0 :
 Int) ∧
 y_29 =
 y_29 ∧
 y_32 =
 y_32 ∧
 y_36 =
 y_36 ∧
 y_35 =
 y_35 ∧
 y_31.fst =
 y_34 ∧
 y_31.snd.fst =
 y_33 ∧
 y_19 =
 y_19) ∧
 y = y ∧
 y_5 =
 y_5) ∧
 Z y_24 ∧
 μ y_24 <
 μ y_26))) ∧
 (decide (a < y_12) = false →
 y_28 = y_4)) ∧
 (y_10 = false →
 ((a_1, y_16, y_19, ()), (0 : Int), ()) = y_4)) ∧
 (y_11 = false →
 Option.isSome (NT.asInner a) = true ∧
 (((0 : Int) = (0 : Int) ∧
 (NT.nil : Nd) = (NT.nil : Nd) ∧
 y_1 = y_1 ∧
 True ∧
 (True ∧ True) ∧
 True ∧ y_8 = y_8 ∧ y_13 = y_13) ∧
 ((0 : Int) = (0 : Int) ∧
 (0 : Int) = (0 : Int) ∧
 (0 : Int) = (0 : Int) ∧
 (0 : Int) = (0 : Int) ∧
 (0 : Int) = (0 : Int) ∧
 (0 : Int) = (0 : Int) ∧
 (0 : Int) = (0 : Int) ∧
 (0 : Int) = (0 : Int)) ∧
 ((0 : Int) = (0 : Int) ∧
 a_1 = a_1 ∧
 a_2 = a_2 ∧
 a_3 = a_3 ∧
 a_4 = a_4 ∧
 a_5 = a_5 ∧ a_6 = a_6 ∧ y_19 = y_19) ∧
 y = y ∧ y_5 = y_5) ∧
 ∃ (Z_1 :
 Nd ×
 Int × Int × Int × Int × Int × Int × Int × Unit →
 Prop),
 ∃ (μ_1 :
 Nd ×
 Int × Int × Int × Int × Int × Int × Int × Unit →
 Nat),
 Z_1 (NT.nil, (0 : Int), y_15) ∧
 ∀
 (a :
 Nd)
 (a_11 : Int),
 let y_21 :=  List.getD y_8 (Int.toNat a_11)  (NT.nil : Nd);
 let y_22 :=  IntKind.wrap IntKind.i64 (a_11 + (1 : Int));
 ∀ (a_12 a_13 a_14 a_15 : Int),
 let y_23 := (a_13, a_14, a_15, ());
 ∀ (a_16 a_17 : Int),
 let y_24 :=  (a, y_22,  (addS (a_12, y_23, a_16, a_17, ())  (sumOf y_21)).fst,  (addS (a_12, y_23, a_16, a_17, ())  (sumOf y_21)).snd.fst.fst,  (addS (a_12, y_23, a_16, a_17, ())  (sumOf y_21)).snd.fst.snd.fst,  (addS (a_12, y_23, a_16, a_17, ())  (sumOf  y_21)).snd.fst.snd.snd.fst,  (addS (a_12, y_23, a_16, a_17, ())  (sumOf y_21)).snd.snd);
 let y_25 :=  (a_12, a_13, a_14, a_15, a_16, a_17,  y_20);
 let y_26 :=  addS (a_12, y_23, a_16, a_17, ())  (sumOf y_21);
 let y_27 :=  (a, a_11, a_12, a_13, a_14, a_15, a_16,  a_17, ());
 let y_28 := y_26.snd.fst;
 let y_29 := y_26.snd.snd;
 let y_30 := y_26.fst;
 let y_31 := y_29.snd.fst;
 let y_32 := y_29.fst;
 let y_33 := y_28.snd;
 let y_34 := y_28.fst;
 let y_35 := y_33.snd.fst;
 let y_36 := y_33.fst;
 let y_37 := (y_21, y_25);
 let y_38 := (a, y_25);
 Z_1 y_27 →
 (decide (a_11 < y_13) = true →
 ((0 : Int) ≤ a_11 ∧ a_11 < y_13) ∧
 True ∧
 True ∧
 ((0 : Int) ≤ y_1 ∧
 y_1 ≤ (3 : Int)) ∧
 (decide (sizeD y_26 y_1 > y) =
 true →
 ((y_21 = y_21 ∧
 y_1 = y_1 ∧
 True ∧
 (True ∧ True) ∧
 True) ∧
 ((0 : Int) =
 (0 : Int) ∧
 (0 : Int) =
 (0 : Int) ∧
 (0 : Int) =
 (0 : Int) ∧
 (0 : Int) =
 (0 :
 Int) ∧
 (0 : Int) =
 (0 :
 Int) ∧
 (0 :
 Int) =
 (0 :
 Int) ∧
 (0 :
 Int) =
 (0 :
 Int) ∧
 (0 :
 Int) =
 (0 :
 Int)) ∧
 ((0 : Int) =
 (0 : Int) ∧
 a_12 = a_12 ∧
 a_13 = a_13 ∧
 a_14 =
 a_14 ∧
 a_15 =
 a_15 ∧
 a_16 =
 a_16 ∧
 a_17 =
 a_17 ∧
 y_19 =
 y_19) ∧
 y = y ∧
 y_5 = y_5) ∧
 Z y_37 ∧
 μ y_37 < μ y_18) ∧
 (decide
 (sizeD y_26 y_1 > y) =
 false →
 (y_7 = true →
 ((sizeD y_26 y_1 ==
 y) =
 true →
 ((y_21 = y_21 ∧
 y_1 = y_1 ∧
 True ∧
 (True ∧
 True) ∧
 True) ∧
 ((0 : Int) =
 (0 :
 Int) ∧
 (0 :
 Int) =
 (0 :
 Int) ∧
 (0 :
 Int) =
 (0 :
 Int) ∧
 (0 :
 Int) =
 (0 :
 Int) ∧
 (0 :
 Int) =
 (0 :
 Int) ∧
 (0 :
 Int) =
 (0 :
 Int) ∧
 (0 :
 Int) =
 (0 :
 Int) ∧
 (0 :
 Int) =
 (0 :
 Int)) ∧
 ((0 : Int) =
 (0 :
 Int) ∧
 a_12 =
 a_12 ∧
 a_13 =
 a_13 ∧
 a_14 =
 a_14 ∧
 a_15 =
 a_15 ∧
 a_16 =
 a_16 ∧
 a_17 =
 a_17 ∧
 y_19 =
 y_19) ∧
 y = y ∧
 y_5 =
 y_5) ∧
 Z y_37 ∧
 μ y_37 <
 μ y_18) ∧
 ((sizeD y_26 y_1 ==
 y) =
 false →
 ((y_22 = y_22 ∧
 a = a ∧
 y_1 =
 y_1 ∧
 True ∧
 (True ∧
 True) ∧
 True ∧
 y_8 =
 y_8 ∧
 y_13 =
 y_13) ∧
 ((0 : Int) =
 (0 :
 Int) ∧
 (0 :
 Int) =
 (0 :
 Int) ∧
 (0 :
 Int) =
 (0 :
 Int) ∧
 (0 :
 Int) =
 (0 :
 Int) ∧
 (0 :
 Int) =
 (0 :
 Int) ∧
 (0 :
 Int) =
 (0 :
 Int) ∧
 (0 :
 Int) =
 (0 :
 Int) ∧
 (0 :
 Int) =
 (0 :
 Int)) ∧
 ((0 : Int) =
 (0 :
 Int) ∧
 y_30 =
 y_30 ∧
 y_34 =
 y_34 ∧
 y_36 =
 y_36 ∧
 y_35 =
 y_35 ∧
 y_29.fst =
 y_32 ∧
 y_29.snd.fst =
 y_31 ∧
 y_19 =
 y_19) ∧
 y = y ∧
 y_5 =
 y_5) ∧
 Z_1 y_24 ∧
 μ_1 y_24 <
 μ_1 y_27)) ∧
 (y_7 = false →
 ((y_22 = y_22 ∧
 a = a ∧
 y_1 = y_1 ∧
 True ∧
 (True ∧
 True) ∧
 True ∧
 y_8 =
 y_8 ∧
 y_13 =
 y_13) ∧
 ((0 : Int) =
 (0 : Int) ∧
 (0 : Int) =
 (0 :
 Int) ∧
 (0 : Int) =
 (0 :
 Int) ∧
 (0 :
 Int) =
 (0 :
 Int) ∧
 (0 :
 Int) =
 (0 :
 Int) ∧
 (0 :
 Int) =
 (0 :
 Int) ∧
 (0 :
 Int) =
 (0 :
 Int) ∧
 (0 :
 Int) =
 (0 :
 Int)) ∧
 ((0 : Int) =
 (0 :
 Int) ∧
 y_30 =
 y_30 ∧
 y_34 =
 y_34 ∧
 y_36 =
 y_36 ∧
 y_35 =
 y_35 ∧
 y_29.fst =
 y_32 ∧
 y_29.snd.fst =
 y_31 ∧
 y_19 =
 y_19) ∧
 y = y ∧
 y_5 = y_5) ∧
 Z_1 y_24 ∧
 μ_1 y_24 <
 μ_1 y_27))) ∧
 (decide (a_11 < y_13) = false →
 ((a = a ∧
 y_1 = y_1 ∧
 True ∧ (True ∧ True) ∧ True) ∧
 ((0 : Int) = (0 : Int) ∧
 (0 : Int) = (0 : Int) ∧
 (0 : Int) = (0 : Int) ∧
 (0 : Int) = (0 : Int) ∧
 (0 : Int) = (0 : Int) ∧
 (0 : Int) =
 (0 : Int) ∧
 (0 : Int) =
 (0 : Int) ∧
 (0 : Int) =
 (0 : Int)) ∧
 ((0 : Int) = (0 : Int) ∧
 a_12 = a_12 ∧
 a_13 = a_13 ∧
 a_14 = a_14 ∧
 a_15 = a_15 ∧
 a_16 = a_16 ∧
 a_17 = a_17 ∧
 y_19 = y_19) ∧
 y = y ∧ y_5 = y_5) ∧
 Z y_38 ∧ μ y_38 < μ y_18))) ∧
 ((!NT.isNil a) = false →
 (y_10 = true →
 y_10 = true ∧
 (((0 : Int) = (0 : Int) ∧
 y_1 = y_1 ∧
 True ∧
 (True ∧ True) ∧
 True ∧ y_9 = y_9 ∧ y_12 = y_12) ∧
 ((0 : Int) = (0 : Int) ∧
 (0 : Int) = (0 : Int) ∧
 (0 : Int) = (0 : Int) ∧
 (0 : Int) = (0 : Int) ∧
 (0 : Int) = (0 : Int) ∧
 (0 : Int) = (0 : Int) ∧
 (0 : Int) = (0 : Int) ∧
 (0 : Int) = (0 : Int)) ∧
 ((0 : Int) = (0 : Int) ∧
 a_1 = a_1 ∧
 a_2 = a_2 ∧
 a_3 = a_3 ∧
 a_4 = a_4 ∧
 a_5 = a_5 ∧ a_6 = a_6 ∧ a_7 = a_7) ∧
 y = y ∧ y_5 = y_5) ∧
 ∃ (Z :
 Int × Int × Int × Int × Int × Int × Int × Unit →
 Prop),
 ∃ (μ :
 Int × Int × Int × Int × Int × Int × Int × Unit →
 Nat),
 Z y_17 ∧
 ∀ (a : Int),
 let y_21 :=  ofI  (List.getD y_9 (Int.toNat a) (Ty.dflt t47));
 let y_22 :=  IntKind.wrap IntKind.i64 (a + (1 : Int));
 ∀ (a_9 a_10 a_11 a_12 : Int),
 let y_23 := (a_10, a_11, a_12, ());
 ∀ (a_13 a_14 : Int),
 let y_24 :=  (y_22,  (addS (a_9, y_23, a_13, a_14, ())  y_21).fst,  (addS (a_9, y_23, a_13, a_14, ())  y_21).snd.fst.fst,  (addS (a_9, y_23, a_13, a_14, ())  y_21).snd.fst.snd.fst,  (addS (a_9, y_23, a_13, a_14, ())  y_21).snd.fst.snd.snd.fst,  (addS (a_9, y_23, a_13, a_14, ())  y_21).snd.snd);
 let y_25 := (a_9, y_23, a_13, a_14, ());
 let y_26 :=  (a, a_9, a_10, a_11, a_12, a_13, a_14,  ());
 let y_27 := (addS y_25 y_21).snd;
 let y_28 :=  ((a_9, y_25, a_7, ()), (0 : Int), ());
 let y_29 := (addS y_25 y_21).fst;
 let y_30 := y_27.fst.snd;
 let y_31 := y_27.snd;
 let y_32 := y_27.fst.fst;
 let y_33 := y_31.snd.fst;
 let y_34 := y_31.fst;
 let y_35 := y_30.snd.fst;
 let y_36 := y_30.fst;
 Z y_26 →
 (decide (a < y_12) = true →
 ((0 : Int) ≤ a ∧ a < y_12) ∧
 True ∧
 True ∧
 ((0 : Int) ≤ y_1 ∧
 y_1 ≤ (3 : Int)) ∧
 (decide
 (sizeD
 (addS y_25 y_21)
 y_1 >
 y) =
 true →
 y_28 = y_4) ∧
 (decide
 (sizeD
 (addS y_25 y_21)
 y_1 >
 y) =
 false →
 (y_7 = true →
 ((sizeD
 (addS y_25
 y_21)
 y_1 ==
 y) =
 true →
 y_28 = y_4) ∧
 ((sizeD
 (addS y_25
 y_21)
 y_1 ==
 y) =
 false →
 ((y_22 = y_22 ∧
 y_1 = y_1 ∧
 True ∧
 (True ∧
 True) ∧
 True ∧
 y_9 =
 y_9 ∧
 y_12 =
 y_12) ∧
 ((0 : Int) =
 (0 :
 Int) ∧
 (0 :
 Int) =
 (0 :
 Int) ∧
 (0 :
 Int) =
 (0 :
 Int) ∧
 (0 :
 Int) =
 (0 :
 Int) ∧
 (0 :
 Int) =
 (0 :
 Int) ∧
 (0 :
 Int) =
 (0 :
 Int) ∧
 (0 :
 Int) =
 (0 :
 Int) ∧
 (0 :
 Int) =
 (0 :
 Int)) ∧
 ((0 : Int) =
 (0 :
 Int) ∧
 y_29 =
 y_29 ∧
 y_32 =
 y_32 ∧
 y_36 =
 y_36 ∧
 y_35 =
 y_35 ∧
 y_31.fst =
 y_34 ∧
 y_31.snd.fst =
 y_33 ∧
 a_7 =
 a_7) ∧
 y = y ∧
 y_5 =
 y_5) ∧
 Z y_24 ∧
 μ y_24 <
 μ y_26)) ∧
 (y_7 = false →
 ((y_22 = y_22 ∧
 y_1 = y_1 ∧
 True ∧
 (True ∧
 True) ∧
 True ∧
 y_9 =
 y_9 ∧
 y_12 =
 y_12) ∧
 ((0 : Int) =
 (0 : Int) ∧
 (0 : Int) =
 (0 :
 Int) ∧
 (0 : Int) =
 (0 :
 Int) ∧
 (0 :
 Int) =
 (0 :
 Int) ∧
 (0 :
 Int) =
 (0 :
 Int) ∧
 (0 :
 Int) =
 (0 :
 Int) ∧
 (0 :
 Int) =
 (0 :
 Int) ∧
 (0 :
 Int) =
 (0 :
 Int)) ∧
 ((0 : Int) =
 (0 :
 Int) ∧
 y_29 =
 y_29 ∧
 y_32 =
 y_32 ∧
 y_36 =
 y_36 ∧
 y_35 =
 y_35 ∧
 y_31.fst =
 y_34 ∧
 y_31.snd.fst =
 y_33 ∧
 a_7 =
 a_7) ∧
 y = y ∧
 y_5 = y_5) ∧
 Z y_24 ∧
 μ y_24 <
 μ y_26))) ∧
 (decide (a < y_12) = false →
 y_28 = y_4)) ∧
 (y_10 = false →
 ((a_1, y_16, a_7, ()), (0 : Int), ()) = y_4)))) ∧
 ((y_5 != (0 : Int)) = false →
 True ∧
 ((topT y_3 = topT y_3 ∧ y_1 = y_1 ∧ True ∧ (True ∧ True) ∧ True) ∧
 ((0 : Int) = (0 : Int) ∧
 (0 : Int) = (0 : Int) ∧
 (0 : Int) = (0 : Int) ∧
 (0 : Int) = (0 : Int) ∧
 (0 : Int) = (0 : Int) ∧
 (0 : Int) = (0 : Int) ∧ (0 : Int) = (0 : Int) ∧ (0 : Int) = (0 : Int)) ∧
 ((0 : Int) = (0 : Int) ∧
 (0 : Int) = (0 : Int) ∧
 (0 : Int) = (0 : Int) ∧
 (0 : Int) = (0 : Int) ∧
 (0 : Int) = (0 : Int) ∧
 (0 : Int) = (0 : Int) ∧ (0 : Int) = (0 : Int) ∧ (0 : Int) = (0 : Int)) ∧
 y = y ∧ y_5 = y_5) ∧
 ∃ (Z :
 Nd ×
 Int × Int × Int × Int × Int × Int × Int × Unit →
 Prop),
 ∃ (μ :
 Nd ×
 Int × Int × Int × Int × Int × Int × Int × Unit →
 Nat),
 Z y_2 ∧
 ∀ (a : Nd),
 let y_8 :=  (List.getD (optL (NT.asInner a)) (0 : Nat)  (([], (0, zS, ())) : List Nd × Nx)).fst;
 let y_9 := (List.getD (optL (NT.asLeaf a)) (0 : Nat) (([], zS, ()) : Lf)).fst;
 let y_10 := Option.isSome (NT.asLeaf a);
 let y_11 := !Option.isSome (NT.asInner a);
 let y_12 := (↑(List.length y_9) : Int);
 let y_13 := (↑(List.length y_8) : Int);
 ∀ (a_1 a_2 a_3 a_4 : Int),
 let y_14 := (a_2, a_3, a_4, ());
 ∀ (a_5 a_6 : Int),
 let y_15 := (a_1, a_2, a_3, a_4, a_5, a_6, ());
 let y_16 := (a_1, y_14, a_5, a_6, ());
 let y_17 := ((0 : Int), y_15);
 ∀ (a_7 : Int),
 let y_18 := (a, a_1, a_2, a_3, a_4, a_5, a_6, a_7, ());
 let y_19 := IntKind.wrap IntKind.i64 (a_7 + (1 : Int));
 let y_20 := (y_19, ());
 Z y_18 →
 ((!NT.isNil a) = true →
 (y_11 = true →
 (y_10 = true →
 y_10 = true ∧
 (((0 : Int) = (0 : Int) ∧
 y_1 = y_1 ∧
 True ∧
 (True ∧ True) ∧
 True ∧ y_9 = y_9 ∧ y_12 = y_12) ∧
 ((0 : Int) = (0 : Int) ∧
 (0 : Int) = (0 : Int) ∧
 (0 : Int) = (0 : Int) ∧
 (0 : Int) = (0 : Int) ∧
 (0 : Int) = (0 : Int) ∧
 (0 : Int) = (0 : Int) ∧
 (0 : Int) = (0 : Int) ∧
 (0 : Int) = (0 : Int)) ∧
 ((0 : Int) = (0 : Int) ∧
 a_1 = a_1 ∧
 a_2 = a_2 ∧
 a_3 = a_3 ∧
 a_4 = a_4 ∧
 a_5 = a_5 ∧ a_6 = a_6 ∧ y_19 = y_19) ∧
 y = y ∧ y_5 = y_5) ∧
 ∃ (Z :
 Int × Int × Int × Int × Int × Int × Int × Unit →
 Prop),
 ∃ (μ :
 Int × Int × Int × Int × Int × Int × Int × Unit →
 Nat),
 Z y_17 ∧
 ∀ (a : Int),
 let y_21 :=  ofI  (List.getD y_9 (Int.toNat a) (Ty.dflt t47));
 let y_22 :=  IntKind.wrap IntKind.i64 (a + (1 : Int));
 ∀ (a_10 a_11 a_12 a_13 : Int),
 let y_23 := (a_11, a_12, a_13, ());
 ∀ (a_14 a_15 : Int),
 let y_24 :=  (y_22,  (addS (a_10, y_23, a_14, a_15, ())  y_21).fst,  (addS (a_10, y_23, a_14, a_15, ())  y_21).snd.fst.fst,  (addS (a_10, y_23, a_14, a_15, ())  y_21).snd.fst.snd.fst,  (addS (a_10, y_23, a_14, a_15, ())  y_21).snd.fst.snd.snd.fst,  (addS (a_10, y_23, a_14, a_15, ())  y_21).snd.snd);
 let y_25 := (a_10, y_23, a_14, a_15, ());
 let y_26 :=  (a, a_10, a_11, a_12, a_13, a_14, a_15,  ());
 let y_27 := (addS y_25 y_21).snd;
 let y_28 :=  ((a_10, y_25, y_19, ()), (0 : Int), ());
 let y_29 := (addS y_25 y_21).fst;
 let y_30 := y_27.fst.snd;
 let y_31 := y_27.snd;
 let y_32 := y_27.fst.fst;
 let y_33 := y_31.snd.fst;
 let y_34 := y_31.fst;
 let y_35 := y_30.snd.fst;
 let y_36 := y_30.fst;
 Z y_26 →
 (decide (a < y_12) = true →
 ((0 : Int) ≤ a ∧ a < y_12) ∧
 True ∧
 True ∧
 ((0 : Int) ≤ y_1 ∧
 y_1 ≤ (3 : Int)) ∧
 (decide
 (sizeD
 (addS y_25 y_21)
 y_1 >
 y) =
 true →
 y_28 = y_4) ∧
 (decide
 (sizeD
 (addS y_25 y_21)
 y_1 >
 y) =
 false →
 (y_7 = true →
 ((sizeD
 (addS y_25
 y_21)
 y_1 ==
 y) =
 true →
 y_28 = y_4) ∧
 ((sizeD
 (addS y_25
 y_21)
 y_1 ==
 y) =
 false →
 ((y_22 = y_22 ∧
 y_1 = y_1 ∧
 True ∧
 (True ∧
 True) ∧
 True ∧
 y_9 =
 y_9 ∧
 y_12 =
 y_12) ∧
 ((0 : Int) =
 (0 :
 Int) ∧
 (0 :
 Int) =
 (0 :
 Int) ∧
 (0 :
 Int) =
 (0 :
 Int) ∧
 (0 :
 Int) =
 (0 :
 Int) ∧
 (0 :
 Int) =
 (0 :
 Int) ∧
 (0 :
 Int) =
 (0 :
 Int) ∧
 (0 :
 Int) =
 (0 :
 Int) ∧
 (0 :
 Int) =
 (0 :
 Int)) ∧
 ((0 : Int) =
 (0 :
 Int) ∧
 y_29 =
 y_29 ∧
 y_32 =
 y_32 ∧
 y_36 =
 y_36 ∧
 y_35 =
 y_35 ∧
 y_31.fst =
 y_34 ∧
 y_31.snd.fst =
 y_33 ∧
 y_19 =
 y_19) ∧
 y = y ∧
 y_5 =
 y_5) ∧
 Z y_24 ∧
 μ y_24 <
 μ y_26)) ∧
 (y_7 = false →
 ((y_22 = y_22 ∧
 y_1 = y_1 ∧
 True ∧
 (True ∧
 True) ∧
 True ∧
 y_9 =
 y_9 ∧
 y_12 =
 y_12) ∧
 ((0 : Int) =
 (0 : Int) ∧
 (0 : Int) =
 (0 :
 Int) ∧
 (0 : Int) =
 (0 :
 Int) ∧
 (0 :
 Int) =
 (0 :
 Int) ∧
 (0 :
 Int) =
 (0 :
 Int) ∧
 (0 :
 Int) =
 (0 :
 Int) ∧
 (0 :
 Int) =
 (0 :
 Int) ∧
 (0 :
 Int) =
 (0 :
 Int)) ∧
 ((0 : Int) =
 (0 :
 Int) ∧
 y_29 =
 y_29 ∧
 y_32 =
 y_32 ∧
 y_36 =
 y_36 ∧
 y_35 =
 y_35 ∧
 y_31.fst =
 y_34 ∧
 y_31.snd.fst =
 y_33 ∧
 y_19 =
 y_19) ∧
 y = y ∧
 y_5 = y_5) ∧
 Z y_24 ∧
 μ y_24 <
 μ y_26))) ∧
 (decide (a < y_12) = false →
 y_28 = y_4)) ∧
 (y_10 = false →
 ((a_1, y_16, y_19, ()), (0 : Int), ()) = y_4)) ∧
 (y_11 = false →
 Option.isSome (NT.asInner a) = true ∧
 (((0 : Int) = (0 : Int) ∧
 (NT.nil : Nd) = (NT.nil : Nd) ∧
 y_1 = y_1 ∧
 True ∧
 (True ∧ True) ∧ True ∧ y_8 = y_8 ∧ y_13 = y_13) ∧
 ((0 : Int) = (0 : Int) ∧
 (0 : Int) = (0 : Int) ∧
 (0 : Int) = (0 : Int) ∧
 (0 : Int) = (0 : Int) ∧
 (0 : Int) = (0 : Int) ∧
 (0 : Int) = (0 : Int) ∧
 (0 : Int) = (0 : Int) ∧
 (0 : Int) = (0 : Int)) ∧
 ((0 : Int) = (0 : Int) ∧
 a_1 = a_1 ∧
 a_2 = a_2 ∧
 a_3 = a_3 ∧
 a_4 = a_4 ∧
 a_5 = a_5 ∧ a_6 = a_6 ∧ y_19 = y_19) ∧
 y = y ∧ y_5 = y_5) ∧
 ∃ (Z_1 :
 Nd ×
 Int × Int × Int × Int × Int × Int × Int × Unit →
 Prop),
 ∃ (μ_1 :
 Nd ×
 Int × Int × Int × Int × Int × Int × Int × Unit →
 Nat),
 Z_1 (NT.nil, (0 : Int), y_15) ∧
 ∀
 (a :
 Nd)
 (a_11 : Int),
 let y_21 :=  List.getD y_8 (Int.toNat a_11)  (NT.nil : Nd);
 let y_22 :=  IntKind.wrap IntKind.i64 (a_11 + (1 : Int));
 ∀ (a_12 a_13 a_14 a_15 : Int),
 let y_23 := (a_13, a_14, a_15, ());
 ∀ (a_16 a_17 : Int),
 let y_24 :=  (a, y_22,  (addS (a_12, y_23, a_16, a_17, ())  (sumOf y_21)).fst,  (addS (a_12, y_23, a_16, a_17, ())  (sumOf y_21)).snd.fst.fst,  (addS (a_12, y_23, a_16, a_17, ())  (sumOf y_21)).snd.fst.snd.fst,  (addS (a_12, y_23, a_16, a_17, ())  (sumOf  y_21)).snd.fst.snd.snd.fst,  (addS (a_12, y_23, a_16, a_17, ())  (sumOf y_21)).snd.snd);
 let y_25 :=  (a_12, a_13, a_14, a_15, a_16, a_17, y_20);
 let y_26 :=  addS (a_12, y_23, a_16, a_17, ())  (sumOf y_21);
 let y_27 :=  (a, a_11, a_12, a_13, a_14, a_15, a_16, a_17,  ());
 let y_28 := y_26.snd.fst;
 let y_29 := y_26.snd.snd;
 let y_30 := y_26.fst;
 let y_31 := y_29.snd.fst;
 let y_32 := y_29.fst;
 let y_33 := y_28.snd;
 let y_34 := y_28.fst;
 let y_35 := y_33.snd.fst;
 let y_36 := y_33.fst;
 let y_37 := (y_21, y_25);
 let y_38 := (a, y_25);
 Z_1 y_27 →
 (decide (a_11 < y_13) = true →
 ((0 : Int) ≤ a_11 ∧ a_11 < y_13) ∧
 True ∧
 True ∧
 ((0 : Int) ≤ y_1 ∧
 y_1 ≤ (3 : Int)) ∧
 (decide (sizeD y_26 y_1 > y) =
 true →
 ((y_21 = y_21 ∧
 y_1 = y_1 ∧
 True ∧
 (True ∧ True) ∧
 True) ∧
 ((0 : Int) = (0 : Int) ∧
 (0 : Int) =
 (0 : Int) ∧
 (0 : Int) =
 (0 : Int) ∧
 (0 : Int) =
 (0 : Int) ∧
 (0 : Int) =
 (0 : Int) ∧
 (0 : Int) =
 (0 :
 Int) ∧
 (0 : Int) =
 (0 :
 Int) ∧
 (0 :
 Int) =
 (0 :
 Int)) ∧
 ((0 : Int) = (0 : Int) ∧
 a_12 = a_12 ∧
 a_13 = a_13 ∧
 a_14 = a_14 ∧
 a_15 = a_15 ∧
 a_16 =
 a_16 ∧
 a_17 =
 a_17 ∧
 y_19 =
 y_19) ∧
 y = y ∧ y_5 = y_5) ∧
 Z y_37 ∧ μ y_37 < μ y_18) ∧
 (decide (sizeD y_26 y_1 > y) =
 false →
 (y_7 = true →
 ((sizeD y_26 y_1 == y) =
 true →
 ((y_21 = y_21 ∧
 y_1 = y_1 ∧
 True ∧
 (True ∧
 True) ∧
 True) ∧
 ((0 : Int) =
 (0 : Int) ∧
 (0 : Int) =
 (0 :
 Int) ∧
 (0 : Int) =
 (0 :
 Int) ∧
 (0 :
 Int) =
 (0 :
 Int) ∧
 (0 :
 Int) =
 (0 :
 Int) ∧
 (0 :
 Int) =
 (0 :
 Int) ∧
 (0 :
 Int) =
 (0 :
 Int) ∧
 (0 :
 Int) =
 (0 :
 Int)) ∧
 ((0 : Int) =
 (0 :
 Int) ∧
 a_12 =
 a_12 ∧
 a_13 =
 a_13 ∧
 a_14 =
 a_14 ∧
 a_15 =
 a_15 ∧
 a_16 =
 a_16 ∧
 a_17 =
 a_17 ∧
 y_19 =
 y_19) ∧
 y = y ∧
 y_5 = y_5) ∧
 Z y_37 ∧
 μ y_37 < μ y_18) ∧
 ((sizeD y_26 y_1 == y) =
 false →
 ((y_22 = y_22 ∧
 a = a ∧
 y_1 = y_1 ∧
 True ∧
 (True ∧
 True) ∧
 True ∧
 y_8 =
 y_8 ∧
 y_13 =
 y_13) ∧
 ((0 : Int) =
 (0 : Int) ∧
 (0 : Int) =
 (0 :
 Int) ∧
 (0 : Int) =
 (0 :
 Int) ∧
 (0 :
 Int) =
 (0 :
 Int) ∧
 (0 :
 Int) =
 (0 :
 Int) ∧
 (0 :
 Int) =
 (0 :
 Int) ∧
 (0 :
 Int) =
 (0 :
 Int) ∧
 (0 :
 Int) =
 (0 :
 Int)) ∧
 ((0 : Int) =
 (0 :
 Int) ∧
 y_30 =
 y_30 ∧
 y_34 =
 y_34 ∧
 y_36 =
 y_36 ∧
 y_35 =
 y_35 ∧
 y_29.fst =
 y_32 ∧
 y_29.snd.fst =
 y_31 ∧
 y_19 =
 y_19) ∧
 y = y ∧
 y_5 = y_5) ∧
 Z_1 y_24 ∧
 μ_1 y_24 <
 μ_1 y_27)) ∧
 (y_7 = false →
 ((y_22 = y_22 ∧
 a = a ∧
 y_1 = y_1 ∧
 True ∧
 (True ∧
 True) ∧
 True ∧
 y_8 =
 y_8 ∧
 y_13 =
 y_13) ∧
 ((0 : Int) =
 (0 : Int) ∧
 (0 : Int) =
 (0 : Int) ∧
 (0 : Int) =
 (0 : Int) ∧
 (0 : Int) =
 (0 :
 Int) ∧
 (0 : Int) =
 (0 :
 Int) ∧
 (0 :
 Int) =
 (0 :
 Int) ∧
 (0 :
 Int) =
 (0 :
 Int) ∧
 (0 :
 Int) =
 (0 :
 Int)) ∧
 ((0 : Int) =
 (0 : Int) ∧
 y_30 = y_30 ∧
 y_34 = y_34 ∧
 y_36 =
 y_36 ∧
 y_35 =
 y_35 ∧
 y_29.fst =
 y_32 ∧
 y_29.snd.fst =
 y_31 ∧
 y_19 =
 y_19) ∧
 y = y ∧
 y_5 = y_5) ∧
 Z_1 y_24 ∧
 μ_1 y_24 <
 μ_1 y_27))) ∧
 (decide (a_11 < y_13) = false →
 ((a = a ∧
 y_1 = y_1 ∧
 True ∧ (True ∧ True) ∧ True) ∧
 ((0 : Int) = (0 : Int) ∧
 (0 : Int) = (0 : Int) ∧
 (0 : Int) = (0 : Int) ∧
 (0 : Int) = (0 : Int) ∧
 (0 : Int) = (0 : Int) ∧
 (0 : Int) = (0 : Int) ∧
 (0 : Int) = (0 : Int) ∧
 (0 : Int) =
 (0 : Int)) ∧
 ((0 : Int) = (0 : Int) ∧
 a_12 = a_12 ∧
 a_13 = a_13 ∧
 a_14 = a_14 ∧
 a_15 = a_15 ∧
 a_16 = a_16 ∧
 a_17 = a_17 ∧
 y_19 = y_19) ∧
 y = y ∧ y_5 = y_5) ∧
 Z y_38 ∧ μ y_38 < μ y_18))) ∧
 ((!NT.isNil a) = false →
 (y_10 = true →
 y_10 = true ∧
 (((0 : Int) = (0 : Int) ∧
 y_1 = y_1 ∧
 True ∧
 (True ∧ True) ∧ True ∧ y_9 = y_9 ∧ y_12 = y_12) ∧
 ((0 : Int) = (0 : Int) ∧
 (0 : Int) = (0 : Int) ∧
 (0 : Int) = (0 : Int) ∧
 (0 : Int) = (0 : Int) ∧
 (0 : Int) = (0 : Int) ∧
 (0 : Int) = (0 : Int) ∧
 (0 : Int) = (0 : Int) ∧
 (0 : Int) = (0 : Int)) ∧
 ((0 : Int) = (0 : Int) ∧
 a_1 = a_1 ∧
 a_2 = a_2 ∧
 a_3 = a_3 ∧
 a_4 = a_4 ∧
 a_5 = a_5 ∧ a_6 = a_6 ∧ a_7 = a_7) ∧
 y = y ∧ y_5 = y_5) ∧
 ∃ (Z :
 Int × Int × Int × Int × Int × Int × Int × Unit → Prop),
 ∃ (μ :
 Int × Int × Int × Int × Int × Int × Int × Unit → Nat),
 Z y_17 ∧
 ∀ (a : Int),
 let y_21 :=  ofI (List.getD y_9 (Int.toNat a) (Ty.dflt t47));
 let y_22 :=  IntKind.wrap IntKind.i64 (a + (1 : Int));
 ∀ (a_9 a_10 a_11 a_12 : Int),
 let y_23 := (a_10, a_11, a_12, ());
 ∀ (a_13 a_14 : Int),
 let y_24 :=  (y_22,  (addS (a_9, y_23, a_13, a_14, ()) y_21).fst,  (addS (a_9, y_23, a_13, a_14, ())  y_21).snd.fst.fst,  (addS (a_9, y_23, a_13, a_14, ())  y_21).snd.fst.snd.fst,  (addS (a_9, y_23, a_13, a_14, ())  y_21).snd.fst.snd.snd.fst,  (addS (a_9, y_23, a_13, a_14, ())  y_21).snd.snd);
 let y_25 := (a_9, y_23, a_13, a_14, ());
 let y_26 :=  (a, a_9, a_10, a_11, a_12, a_13, a_14, ());
 let y_27 := (addS y_25 y_21).snd;
 let y_28 :=  ((a_9, y_25, a_7, ()), (0 : Int), ());
 let y_29 := (addS y_25 y_21).fst;
 let y_30 := y_27.fst.snd;
 let y_31 := y_27.snd;
 let y_32 := y_27.fst.fst;
 let y_33 := y_31.snd.fst;
 let y_34 := y_31.fst;
 let y_35 := y_30.snd.fst;
 let y_36 := y_30.fst;
 Z y_26 →
 (decide (a < y_12) = true →
 ((0 : Int) ≤ a ∧ a < y_12) ∧
 True ∧
 True ∧
 ((0 : Int) ≤ y_1 ∧
 y_1 ≤ (3 : Int)) ∧
 (decide
 (sizeD (addS y_25 y_21)
 y_1 >
 y) =
 true →
 y_28 = y_4) ∧
 (decide
 (sizeD (addS y_25 y_21)
 y_1 >
 y) =
 false →
 (y_7 = true →
 ((sizeD (addS y_25 y_21)
 y_1 ==
 y) =
 true →
 y_28 = y_4) ∧
 ((sizeD (addS y_25 y_21)
 y_1 ==
 y) =
 false →
 ((y_22 = y_22 ∧
 y_1 = y_1 ∧
 True ∧
 (True ∧
 True) ∧
 True ∧
 y_9 =
 y_9 ∧
 y_12 =
 y_12) ∧
 ((0 : Int) =
 (0 : Int) ∧
 (0 : Int) =
 (0 :
 Int) ∧
 (0 : Int) =
 (0 :
 Int) ∧
 (0 :
 Int) =
 (0 :
 Int) ∧
 (0 :
 Int) =
 (0 :
 Int) ∧
 (0 :
 Int) =
 (0 :
 Int) ∧
 (0 :
 Int) =
 (0 :
 Int) ∧
 (0 :
 Int) =
 (0 :
 Int)) ∧
 ((0 : Int) =
 (0 :
 Int) ∧
 y_29 =
 y_29 ∧
 y_32 =
 y_32 ∧
 y_36 =
 y_36 ∧
 y_35 =
 y_35 ∧
 y_31.fst =
 y_34 ∧
 y_31.snd.fst =
 y_33 ∧
 a_7 =
 a_7) ∧
 y = y ∧
 y_5 = y_5) ∧
 Z y_24 ∧
 μ y_24 <
 μ y_26)) ∧
 (y_7 = false →
 ((y_22 = y_22 ∧
 y_1 = y_1 ∧
 True ∧
 (True ∧ True) ∧
 True ∧
 y_9 = y_9 ∧
 y_12 =
 y_12) ∧
 ((0 : Int) =
 (0 : Int) ∧
 (0 : Int) =
 (0 : Int) ∧
 (0 : Int) =
 (0 : Int) ∧
 (0 : Int) =
 (0 :
 Int) ∧
 (0 : Int) =
 (0 :
 Int) ∧
 (0 :
 Int) =
 (0 :
 Int) ∧
 (0 :
 Int) =
 (0 :
 Int) ∧
 (0 :
 Int) =
 (0 :
 Int)) ∧
 ((0 : Int) =
 (0 : Int) ∧
 y_29 = y_29 ∧
 y_32 = y_32 ∧
 y_36 =
 y_36 ∧
 y_35 =
 y_35 ∧
 y_31.fst =
 y_34 ∧
 y_31.snd.fst =
 y_33 ∧
 a_7 =
 a_7) ∧
 y = y ∧
 y_5 = y_5) ∧
 Z y_24 ∧
 μ y_24 < μ y_26))) ∧
 (decide (a < y_12) = false → y_28 = y_4)) ∧
 (y_10 = false → ((a_1, y_16, a_7, ()), (0 : Int), ()) = y_4)))))))
theorem vcEq12 : fnVC E12 Tryd.f12 (bodyOf Tryd.f12) cFind = vc12 := by kernel_rfl
def hs13 : List (Nat × Nat × Hint) := [(0, 4, ⟨[.slot 1 t3, .slot 6 t75], [4], [4], []⟩),
  (0, 7, ⟨[.slot 1 t3, .slot 6 t75, .slot 36 t3], [4, 34, 35], [4], []⟩)]
def nm13 : List Nat := [3000000047]
noncomputable def E13 : Env := env tab [(22, cSum), (30, cTop), (32, cSumOf)] [] gl hs13 nm13
def vc13 : Prop :=
 ∀ (x : Option (Nd × Unit) × Int × Unit),
 let y := x.snd.fst;
 let y_1 := x.fst;
 let y_2 := decide (y ≥ (sumOf (topT y_1)).fst);
 okTre y_1 →
 (decide (y < (0 : Int)) = true →
 (((0 : Int), (0 : Int), ((0 : Int), (0 : Int), (0 : Int), ()), (0 : Int), ByteArray.empty, ()), (1 : Int), ()) =
 atT y_1 y) ∧
 (decide (y < (0 : Int)) = false →
 True ∧
 (y_2 = true →
 (((0 : Int), (0 : Int), ((0 : Int), (0 : Int), (0 : Int), ()), (0 : Int), ByteArray.empty, ()), (1 : Int),
 ()) =
 atT y_1 y) ∧
 (y_2 = false →
 True ∧
 ((topT y_1 = topT y_1 ∧ y = y ∧ True) ∧
 (0 : Int) = (0 : Int) ∧
 (0 : Int) = (0 : Int) ∧
 (0 : Int) = (0 : Int) ∧
 (0 : Int) = (0 : Int) ∧
 (0 : Int) = (0 : Int) ∧ (0 : Int) = (0 : Int) ∧ ByteArray.empty = ByteArray.empty) ∧
 ∃ (Z : Int × Nd × Unit → Prop),
 ∃ (μ : Int × Nd × Unit → Nat),
 Z (y, topT y_1, ()) ∧
 ∀ (a : Int) (a_1 : Nd),
 let y_3 :=  (List.getD (optL (NT.asInner a_1)) (0 : Nat)  (([], (0, zS, ())) : List Nd × Nx)).fst;
 let y_4 := (a, a_1, ());
 let y_5 := !Option.isSome (NT.asInner a_1);
 let y_6 := (List.getD (optL (NT.asLeaf a_1)) (0 : Nat) (([], zS, ()) : Lf)).fst;
 let y_7 := (↑(List.length y_3) : Int);
 Z y_4 →
 (y_5 = true →
 Option.isSome (NT.asLeaf a_1) = true ∧
 Option.isSome (NT.asLeaf a_1) = true ∧
 ((0 : Int) ≤ a ∧ a < (↑(List.length y_6) : Int)) ∧
 (List.getD y_6 (Int.toNat a) (Ty.dflt t47), (0 : Int), ()) = atT y_1 y) ∧
 (y_5 = false →
 Option.isSome (NT.asInner a_1) = true ∧
 (((0 : Int) = (0 : Int) ∧ a_1 = a_1 ∧ a = a ∧ True ∧ y_3 = y_3 ∧ y_7 = y_7) ∧
 (0 : Int) = (0 : Int) ∧
 (0 : Int) = (0 : Int) ∧
 (0 : Int) = (0 : Int) ∧
 (0 : Int) = (0 : Int) ∧
 (0 : Int) = (0 : Int) ∧
 (0 : Int) = (0 : Int) ∧ ByteArray.empty = ByteArray.empty) ∧
 ∃ (Z_1 :
 Int × Nd × Int × Unit →
 Prop),
 ∃ (μ_1 :
 Int × Nd × Int × Unit →
 Nat),
 Z_1 (a, a_1, (0 : Int), ()) ∧
 ∀ (a : Int)
 (a_4 : Nd),
 let y := (a, a_4, ());
 ∀ (a_5 : Int),
 let y_8 :=  List.getD y_3 (Int.toNat a_5)  (NT.nil : Nd);
 let y_9 := (a, a_4, a_5, ());
 let y_10 := IntKind.wrap IntKind.i64 (a_5 + (1 : Int));
 let y_11 :=  (IntKind.wrap IntKind.i64 (a - (sumOf y_8).fst), a_4, y_10, ());
 let y_12 := (sumOf y_8).fst;
 let y_13 := (a, y_8, ());
 Z_1 y_9 →
 (decide (a_5 < y_7) = true →
 ((0 : Int) ≤ a_5 ∧ a_5 < y_7) ∧
 True ∧
 (decide (a ≥ y_12) = true →
 ((y_10 = y_10 ∧
 a_4 = a_4 ∧
 IntKind.wrap IntKind.i64 (a - y_12) =
 IntKind.wrap IntKind.i64 (a - y_12) ∧
 True ∧ y_3 = y_3 ∧ y_7 = y_7) ∧
 (0 : Int) = (0 : Int) ∧
 (0 : Int) = (0 : Int) ∧
 (0 : Int) = (0 : Int) ∧
 (0 : Int) = (0 : Int) ∧
 (0 : Int) = (0 : Int) ∧
 (0 : Int) = (0 : Int) ∧
 ByteArray.empty = ByteArray.empty) ∧
 Z_1 y_11 ∧ μ_1 y_11 < μ_1 y_9) ∧
 (decide (a ≥ y_12) = false →
 ((y_8 = y_8 ∧ a = a ∧ True) ∧
 (0 : Int) = (0 : Int) ∧
 (0 : Int) = (0 : Int) ∧
 (0 : Int) = (0 : Int) ∧
 (0 : Int) = (0 : Int) ∧
 (0 : Int) = (0 : Int) ∧
 (0 : Int) = (0 : Int) ∧
 ByteArray.empty = ByteArray.empty) ∧
 Z y_13 ∧ μ y_13 < μ y_4)) ∧
 (decide (a_5 < y_7) = false →
 ((a_4 = a_4 ∧ a = a ∧ True) ∧
 (0 : Int) = (0 : Int) ∧
 (0 : Int) = (0 : Int) ∧
 (0 : Int) = (0 : Int) ∧
 (0 : Int) = (0 : Int) ∧
 (0 : Int) = (0 : Int) ∧
 (0 : Int) = (0 : Int) ∧
 ByteArray.empty = ByteArray.empty) ∧
 Z y ∧ μ y < μ y_4))))
theorem vcEq13 : fnVC E13 Tryd.f13 (bodyOf Tryd.f13) cAt = vc13 := by kernel_rfl
def hs14 : List (Nat × Nat × Hint) := []
def nm14 : List Nat := [3000000047]
noncomputable def E14 : Env := env tab [(34, cTreeOf), (22, cSum)] [] gl hs14 nm14
def vc14 : Prop :=
 ∀ (x : Option (Option (Nd × Unit) × Unit) × Unit),
 True →
 True ∧
 True ∧
 ((0 : Int) ≤ (0 : Int) ∧ (0 : Int) < (↑(3 : Nat) : Int)) ∧
 ((0 : Int) ≤ (1 : Int) ∧ (1 : Int) < (↑(3 : Nat) : Int)) ∧
 ((sumOf (topT (treeOf x.fst))).snd.fst.fst, (sumOf (topT (treeOf x.fst))).snd.fst.snd.fst, ()) =
 ((sumOf (topT (treeOf x.fst))).snd.fst.fst, (sumOf (topT (treeOf x.fst))).snd.fst.snd.fst, ())
theorem vcEq14 : fnVC E14 Tryd.f14 (bodyOf Tryd.f14) cSizes = vc14 := by kernel_rfl
def hs27 : List (Nat × Nat × Hint) := []
def nm27 : List Nat := [3000000047]
noncomputable def E27 : Env := env tab [(50, cLen), (51, cAll), (49, cRow), (37, cTreeNew)] [] gl hs27 nm27
def vc27 : Prop :=
 ∀ (x : Option (Int × List Inl × Unit) × Unit),
 List.length (allI x.fst) ≤ (10000 : Nat) ∧ shortL (allI x.fst) →
 True ∧
 List.length (allI x.fst) ≤ (10000 : Nat) ∧
 (List.length (allI x.fst) ≤ (10000 : Nat) ∧ shortL (allI x.fst)) ∧
 List.length (rowF (lenI x.fst) (0 : Int) (allI x.fst)) ≤ (100000 : Nat) ∧
 some ((newT (rowF (lenI x.fst) (0 : Int) (allI x.fst))).fst, ()) = weaveI x.fst
theorem vcEq27 : fnVC E27 Tryd.f27 (bodyOf Tryd.f27) cWeave = vc27 := by kernel_rfl
def hs34 : List (Nat × Nat × Hint) := []
def nm34 : List Nat := [3000000047]
noncomputable def E34 : Env := env tab [] [] gl hs34 nm34
def vc34 : Prop :=
 ∀ (x : Option (Option (Nd × Unit) × Unit) × Unit),
 True →
 (Option.isNone x.fst = true → none = treeOf x.fst) ∧
 (Option.isNone x.fst = false →
 Option.isSome x.fst = true ∧ (List.getD (optL x.fst) (0 : Nat) (Ty.dflt t115)).fst = treeOf x.fst)
theorem vcEq34 : fnVC E34 Tryd.f34 (bodyOf Tryd.f34) cTreeOf = vc34 := by kernel_rfl
def hs36 : List (Nat × Nat × Hint) := []
def nm36 : List Nat := [3000000047]
noncomputable def E36 : Env := env tab [(34, cTreeOf), (12, cFind)] [] gl hs36 nm36
def vc36 : Prop :=
 ∀ (x : Option (Option (Nd × Unit) × Unit) × Int × Int × Unit),
 WfN (topT (treeOf x.fst)) →
 True ∧
 WfN (topT (treeOf x.fst)) ∧
 (((findT (treeOf x.fst) (0 : Int) x.snd.fst x.snd.snd.fst).snd.fst != (0 : Int)) = true →
 ((0 : Int), (findT (treeOf x.fst) (0 : Int) x.snd.fst x.snd.snd.fst).snd) =
 outW x.fst x.snd.fst x.snd.snd.fst) ∧
 (((findT (treeOf x.fst) (0 : Int) x.snd.fst x.snd.snd.fst).snd.fst != (0 : Int)) = false →
 ((0 : Int) ≤ (1 : Int) ∧ (1 : Int) < (↑(3 : Nat) : Int)) ∧
 ((0 : Int) ≤ (0 : Int) ∧ (0 : Int) < (↑(3 : Nat) : Int)) ∧
 (IntKind.wrap IntKind.i64
 (IntKind.wrap IntKind.i64
 ((findT (treeOf x.fst) (0 : Int) x.snd.fst x.snd.snd.fst).fst.snd.fst.snd.fst.snd.fst +
 x.snd.fst) -
 (findT (treeOf x.fst) (0 : Int) x.snd.fst x.snd.snd.fst).fst.snd.fst.snd.fst.fst),
 (0 : Int), ()) =
 outW x.fst x.snd.fst x.snd.snd.fst)
theorem vcEq36 : fnVC E36 Tryd.f36 (bodyOf Tryd.f36) cOut = vc36 := by kernel_rfl
def hs49 : List (Nat × Nat × Hint) := [(0, 3, ⟨[.slot 0 t3, .rowS 7 900000007 t47 47, .slot 12 t3], [1, 10, 11], [], []⟩)]
def nm49 : List Nat := [3000000047]
noncomputable def E49 : Env := env tab [(65, cPlain), (66, cVirtual)] [] gl hs49 nm49
def vc49 : Prop :=
 ∀ (x : Int × Int × List Inl × Unit),
 let y := x.snd.snd.fst;
 let y_1 := x.snd.fst;
 let y_2 := x.fst;
 let y_3 := (↑(List.length y) : Int);
 let y_4 := rowF y_1 y_2 y;
 List.length y ≤ (10000 : Nat) ∧ shortL y →
 (((0 : Int) = (0 : Int) ∧ True ∧ y_2 = y_2 ∧ y_1 = y_1 ∧ y = y ∧ y_3 = y_3) ∧ True ∧ True) ∧
 ∃ (Z : Int × List Itm × Int × Unit → Prop),
 ∃ (μ : Int × List Itm × Int × Unit → Nat),
 Z (y_2, [], (0 : Int), ()) ∧
 ∀ (a : Int),
 let y_5 := [plainI (IntKind.wrap IntKind.i64 (y_1 - a))];
 ∀ (a_1 : List Itm) (a_2 : Int),
 let y_6 := (List.getD y (Int.toNat a_2) (Ty.dflt t105)).snd.fst;
 let y_7 := (a, a_1, a_2, ());
 let y_8 :=  (a, a_1 ++ [virtualI (List.getD y (Int.toNat a_2) (Ty.dflt t105))],  IntKind.wrap IntKind.i64 (a_2 + (1 : Int)), ());
 let y_9 := [virtualI (List.getD y (Int.toNat a_2) (Ty.dflt t105))];
 let y_10 := IntKind.wrap IntKind.i64 (a_2 + (1 : Int));
 let y_11 := a_1 ++ [plainI (IntKind.wrap IntKind.i64 (y_6 - a))] ++ y_9;
 let y_12 := List.length (a_1 ++ [plainI (IntKind.wrap IntKind.i64 (y_6 - a))]) + List.length y_9;
 let y_13 := List.length a_1 + List.length [plainI (IntKind.wrap IntKind.i64 (y_6 - a))];
 let y_14 := (y_6, y_11, y_10, ());
 Z y_7 →
 (decide (a_2 < y_3) = true →
 ((0 : Int) ≤ a_2 ∧ a_2 < y_3) ∧
 (decide (y_6 > a) = true →
 True ∧
 y_13 * (64 : Nat) ≤ (140737488355328 : Nat) ∧
 y_13 ≤ maxLen ∧
 ByteArray.size (txt (List.getD y (Int.toNat a_2) (Ty.dflt t105))) ≤ maxLen ∧
 y_12 * (64 : Nat) ≤ (140737488355328 : Nat) ∧
 y_12 ≤ maxLen ∧
 ((y_10 = y_10 ∧ True ∧ y_6 = y_6 ∧ y_1 = y_1 ∧ y = y ∧ y_3 = y_3) ∧
 y_11 = y_11 ∧ True) ∧
 Z y_14 ∧ μ y_14 < μ y_7) ∧
 (decide (y_6 > a) = false →
 ByteArray.size (txt (List.getD y (Int.toNat a_2) (Ty.dflt t105))) ≤ maxLen ∧
 (List.length a_1 + List.length y_9) * (64 : Nat) ≤ (140737488355328 : Nat) ∧
 List.length a_1 + List.length y_9 ≤ maxLen ∧
 ((y_10 = y_10 ∧ True ∧ a = a ∧ y_1 = y_1 ∧ y = y ∧ y_3 = y_3) ∧
 a_1 ++ y_9 = a_1 ++ y_9 ∧ True) ∧
 Z y_8 ∧ μ y_8 < μ y_7)) ∧
 (decide (a_2 < y_3) = false →
 (decide (y_1 > a) = true →
 True ∧
 (List.length a_1 + List.length y_5) * (64 : Nat) ≤ (140737488355328 : Nat) ∧
 List.length a_1 + List.length y_5 ≤ maxLen ∧ a_1 ++ y_5 = y_4) ∧
 (decide (y_1 > a) = false → a_1 = y_4))
theorem vcEq49 : fnVC E49 Tryd.f49 (bodyOf Tryd.f49) cRow = vc49 := by kernel_rfl
def hs65 : List (Nat × Nat × Hint) := []
def nm65 : List Nat := [3000000047]
noncomputable def E65 : Env := env tab [] [] gl hs65 nm65
def vc65 : Prop :=
 ∀ (x : Int × Unit),
 True → ((0 : Int), (0 : Int), (x.fst, x.fst, (0 : Int), ()), (0 : Int), ByteArray.empty, ()) = plainI x.fst
theorem vcEq65 : fnVC E65 Tryd.f65 (bodyOf Tryd.f65) cPlain = vc65 := by kernel_rfl
def hs66 : List (Nat × Nat × Hint) := []
def nm66 : List Nat := [3000000047]
noncomputable def E66 : Env := env tab [(57, cCount)] [] gl hs66 nm66
def vc66 : Prop :=
 ∀ (x : Inl × Unit),
 ByteArray.size (txt x.fst) ≤ maxLen →
 ByteArray.size x.fst.snd.snd.snd.snd.fst ≤ maxLen ∧
 ((0 : Int), x.fst.fst, ((0 : Int), (↑(List.length (decodeL x.fst.snd.snd.snd.snd.fst)) : Int), (0 : Int), ()),
 (0 : Int), ByteArray.empty, ()) =
 virtualI x.fst
theorem vcEq66 : fnVC E66 Tryd.f66 (bodyOf Tryd.f66) cVirtual = vc66 := by kernel_rfl
end Go.Fr.D16
namespace Go.Fr.D16
open Go Go.Fr Go.Proofs
abbrev zI0 : Inl := (0, 0, 0, 0, ByteArray.empty, ())
theorem dInl : Ty.dflt t105 = zI0 := rfl
theorem rowF_len (t : Int) : (f : Int) → (l : List Inl) → (rowF t f l).length ≤ 2 * l.length + 1
  | f, [] => by
    unfold rowF
    split <;> simp
  | f, x :: r => by
    unfold rowF
    split
    · have := rowF_len t x.2.1 r
      simp; omega
    · have := rowF_len t f r
      simp; omega
theorem p27 : vc27 := by
  unfold vc27
  try simp only [true_and]
  rintro ⟨s, ⟨⟩⟩
  simp only []
  rintro ⟨h1, h2⟩
  have := rowF_len (lenI s) 0 (allI s)
  have h3 : (rowF (lenI s) 0 (allI s)).length ≤ 100000 := by omega
  exact ⟨h1, ⟨h1, h2⟩, h3, rfl⟩
theorem p36 : vc36 := by
  unfold vc36
  simp only [true_and, bne_iff_ne, bne_eq_false_iff_eq, ne_eq]
  rintro ⟨w, a, b, ⟨⟩⟩ hw
  have y : ¬ (findT (treeOf w) 0 a b).2.1 = 0 → (0, (findT (treeOf w) 0 a b).2) = outW w a b := fun h => by
    unfold outW
    rw [if_pos h]
  have n : (findT (treeOf w) 0 a b).2.1 = 0 → (w64 (w64 ((findT (treeOf w) 0 a b).1.2.1.2.1.2.1 + a) - (findT (treeOf w) 0 a b).1.2.1.2.1.1), 0, ()) = outW w a b := fun h => by
    unfold outW
    rw [if_neg (fun hh => hh h)]
  (repeat' (first | apply And.intro | intro _))
  all_goals first
    | exact hw
    | exact y (by assumption)
    | exact n (by assumption)
    | decide
    | omega
theorem p14 : vc14 := by
  unfold vc14
  try simp only [eq_self, true_and, and_true]
  intro x
  (repeat' (first | apply And.intro | intro _))
  all_goals first
    | decide
    | rfl
    | trivial
theorem p34 : vc34 := by
  unfold vc34
  rintro ⟨s, ⟨⟩⟩ -
  cases s with
  | none => exact ⟨fun _ => rfl, fun h => by cases h⟩
  | some s => exact ⟨fun h => (by cases h), fun _ => ⟨rfl, rfl⟩⟩
theorem p65 : vc65 := by
  unfold vc65
  intro x _
  rfl
theorem p66 : vc66 := by
  unfold vc66
  rintro ⟨x, ⟨⟩⟩ h
  exact ⟨h, rfl⟩
end Go.Fr.D16
namespace Go.Fr.D16
open Go Go.Fr Go.Proofs
def RowAt (t f0 : Int) (l : List Inl) (z : Int × List Itm × Int × Unit) : Prop := ∃ k : Nat, k ≤ l.length ∧ z.2.2.1 = (k : Int) ∧ rowF t f0 l = z.2.1 ++ rowF t z.1 (l.drop k) ∧ z.2.1.length ≤ 2 * k
theorem p49 : vc49 := by
  unfold vc49
  simp only [eq_self, true_and, and_true, decide_eq_true_eq, decide_eq_false_iff_not]
  rintro ⟨f0, t, l, ⟨⟩⟩
  simp only [maxLen_eq, dInl]
  rintro ⟨hl, hs⟩
  refine ⟨RowAt t f0 l, fun z => l.length - z.2.2.1.toNat, ⟨0, Nat.zero_le _, rfl, rfl, Nat.le_refl _⟩, ?_⟩
  rintro f out i ⟨k, hk, hi, hr, hlen⟩
  simp only at hi hr hlen
  subst hi
  refine ⟨fun h => ?_, fun h => ?_⟩
  · have hlt : k < l.length := by omega
    have hw : IntKind.i64.wrap ((k : Int) + 1) = ((k + 1 : Nat) : Int) := wrap_succ (by omega)
    rw [toNat_cast, hw]
    simp only [toNat_cast, List.length_singleton, List.length_append]
    rw [drop_cons zI0 hlt] at hr
    have hx := hs _ (getD_in zI0 hlt)
    generalize l.getD k zI0 = x at hr hx ⊢
    have e : rowF t f (x :: l.drop (k + 1)) = if x.2.1 > f then plainI (w64 (x.2.1 - f)) :: virtualI x :: rowF t x.2.1 (l.drop (k + 1)) else virtualI x :: rowF t f (l.drop (k + 1)) := rfl
    rw [e] at hr
    have hsz : (txt x).size ≤ 9223372036854775807 := by omega
    have y : x.2.1 > f → RowAt t f0 l (x.2.1, out ++ [plainI (IntKind.i64.wrap (x.2.1 - f))] ++ [virtualI x], ((k + 1 : Nat) : Int), ()) := fun g => ⟨k + 1, hlt, rfl, by
      rw [if_pos g] at hr
      rw [hr, List.append_assoc, List.append_assoc]
      rfl, by simp; omega⟩
    have n : ¬ x.2.1 > f → RowAt t f0 l (f, out ++ [virtualI x], ((k + 1 : Nat) : Int), ()) := fun g => ⟨k + 1, hlt, rfl, by
      rw [if_neg g] at hr
      rw [hr, List.append_assoc]
      rfl, by simp; omega⟩
    have dec : l.length - (k + 1) < l.length - k := by omega
    (repeat' (first | apply And.intro | intro _))
    all_goals first
      | omega
      | exact hsz
      | exact y (by assumption)
      | exact n (by assumption)
      | exact dec
      | rfl
  · have hke : k = l.length := by omega
    have e : rowF t f [] = if t > f then [plainI (w64 (t - f))] else [] := rfl
    rw [hke, List.drop_length, e] at hr
    simp only [List.length_singleton]
    have y : t > f → out ++ [plainI (IntKind.i64.wrap (t - f))] = rowF t f0 l := fun g => by
      rw [if_pos g] at hr
      exact hr.symm
    have n : ¬ t > f → out = rowF t f0 l := fun g => by
      rw [if_neg g, List.append_nil] at hr
      exact hr.symm
    (repeat' (first | apply And.intro | intro _))
    all_goals first
      | omega
      | exact y (by assumption)
      | exact n (by assumption)
end Go.Fr.D16
namespace Go.Fr.D16
open Go Go.Fr Go.Proofs
theorem take_app {α : Type} (a b : List α) (i : Int) (h : (a.length : Int) ≤ i) : (a ++ b).take i.toNat = a ++ b.take (i - a.length).toNat := by
  rw [List.take_append]
  congr 1
  · exact List.take_of_length_le (by omega)
  · congr 1; omega
theorem drop_app {α : Type} (a b : List α) (i : Int) (h : (a.length : Int) ≤ i) : (a ++ b).drop i.toNat = b.drop (i - a.length).toNat := by
  rw [List.drop_append]
  rw [List.drop_eq_nil_of_le (by omega), List.nil_append]
  congr 1; omega
theorem take_app_l {α : Type} (a b : List α) (i : Int) (h : i ≤ (a.length : Int)) : (a ++ b).take i.toNat = a.take i.toNat := by
  rw [List.take_append, show i.toNat - a.length = 0 by omega, List.take_zero, List.append_nil]
theorem drop_app_l {α : Type} (a b : List α) (i : Int) (h : i ≤ (a.length : Int)) : (a ++ b).drop i.toNat = a.drop i.toNat ++ b := by
  rw [List.drop_append, show i.toNat - a.length = 0 by omega, List.drop_zero]
theorem spK_at : (ks : List Nd) → (i : Nat) → (a : Int) → (∀ x ∈ ks, (sumOf x).1 = ((items x).length : Int)) → a ≤ 9223372036854775807 → (∀ x ∈ ks, (items x).length ≤ 100000) →
    (spK ks i a = none ∧ (ks = [] ∨ ((ks.flatMap items).length : Int) < a)) ∨
    (∃ j a', spK ks i a = some (i + j, a') ∧ j < ks.length ∧ a' ≤ ((items (ks.getD j .nil)).length : Int) ∧ (j = 0 ∨ 0 < a') ∧ a' ≤ a ∧ a = a' + (((ks.take j).flatMap items).length : Int))
  | [], i, a, _, _, _ => .inl ⟨rfl, .inl rfl⟩
  | k :: r, i, a, hs, ha, hl => by
    have hk := hs k (List.mem_cons_self ..)
    have hkl := hl k (List.mem_cons_self ..)
    have e : spK (k :: r) i a = if a ≤ (sumOf k).1 then some (i, a) else spK r (i + 1) (w64 (a - (sumOf k).1)) := rfl
    rw [e, hk]
    by_cases h : a ≤ ((items k).length : Int)
    · rw [if_pos h]
      exact .inr ⟨0, a, rfl, by simp, h, .inl rfl, Int.le_refl _, by simp⟩
    · rw [if_neg h, w64_id (by omega) (by omega)]
      rcases spK_at r (i + 1) (a - ((items k).length : Int)) (fun x hx => hs x (List.mem_cons_of_mem _ hx)) (by omega) (fun x hx => hl x (List.mem_cons_of_mem _ hx)) with ⟨h1, h2⟩ | ⟨j, a', h1, h2, h3, h4, h5, h6⟩
      · refine .inl ⟨h1, .inr ?_⟩
        rw [flat_cons, List.length_append]
        rcases h2 with rfl | h2
        · simp; omega
        · omega
      · refine .inr ⟨j + 1, a', by rw [h1, show i + 1 + j = i + (j + 1) by omega], by simp; omega, h3, ?_, by omega, ?_⟩
        · rcases h4 with rfl | h4
          · simp at h6; omega
          · exact .inr h4
        · rw [List.take_succ_cons, flat_cons, List.length_append]
          omega
theorem rowN_ok {h : Nat} {ks : List Nd} (h0 : 1 ≤ h) (hh : h ≤ 99) (h8 : ks.length ≤ 8) (hk : ∀ k ∈ ks, Wf h false k) : WfN (rowN ks) ∧ items (rowN ks) = ks.flatMap items := by
  unfold rowN
  by_cases e0 : ks.length = 0
  · rw [if_pos e0, List.eq_nil_of_length_eq_zero e0]
    exact ⟨.inl rfl, rfl⟩
  · rw [if_neg e0]
    by_cases e1 : ks.length = 1
    · rw [if_pos e1]
      match ks, e1 with
      | [x], _ =>
        exact ⟨.inr ⟨h, by omega, wf_top (hk x (List.mem_cons_self ..))⟩, by simp⟩
    · rw [if_neg e1]
      have w : Wf (h + 1) true (mkInner ks) := wf_inner h0 (by omega) (by simp; omega) h8 hk
      exact ⟨.inr ⟨h + 1, by omega, w⟩, items_inner w (by omega)⟩
theorem kid_split {ks : List Nd} {j : Nat} (h : j < ks.length) : ks = ks.take j ++ (ks.getD j .nil :: ks.drop (j + 1)) := by
  conv => lhs; rw [← List.take_append_drop j ks]
  rw [drop_cons .nil h]
theorem flat_len_le {ks : List Nd} {j : Nat} (h : j < ks.length) : ((ks.take j).flatMap items).length + (items (ks.getD j .nil)).length + ((ks.drop (j + 1)).flatMap items).length = (ks.flatMap items).length := by
  conv => rhs; rw [kid_split h]
  rw [List.flatMap_append, List.flatMap_cons, List.length_append, List.length_append]
  omega
theorem split_ok : (m h : Nat) → (top : Bool) → (n : Nd) → (a : Int) → h ≤ 100 → h ≤ m → Wf h top n → Fine (items n) → (items n).length ≤ 100000 → a ≤ 9223372036854775807 →
    WfN (splitF m n a).1 ∧ WfN (splitF m n a).2 ∧ items (splitF m n a).1 = (items n).take a.toNat ∧ items (splitF m n a).2 = (items n).drop a.toNat
  | 0, h, _, n, _, _, hm, e, _, _, _ => by
    have : h = 0 := by omega
    subst this
    exact e.elim
  | m + 1, 0, _, _, _, _, _, e, _, _, _ => e.elim
  | m + 1, h + 1, _, .nil, _, _, _, e, _, _, _ => e.elim
  | m + 1, h + 1, top, .leaf x, a, hh, hm, e, hf, hl, ha => by
    have h0 : h = 0 := e.1
    subst h0
    have e8 := e.2.2.1
    have wl : WfN (.leaf x) := .inr ⟨1, by omega, wf_any e⟩
    have es : splitF (m + 1) (.leaf x) a = if a ≤ 0 then (.nil, .leaf x) else if a ≥ (x.1.length : Int) then (.leaf x, .nil) else (mkLeaf (x.1.take a.toNat), mkLeaf (x.1.drop a.toNat)) := rfl
    rw [es, items_leaf]
    by_cases h1 : a ≤ 0
    · rw [if_pos h1, show a.toNat = 0 by omega]
      exact ⟨.inl rfl, wl, rfl, rfl⟩
    · rw [if_neg h1]
      by_cases h2 : a ≥ (x.1.length : Int)
      · rw [if_pos h2]
        refine ⟨wl, .inl rfl, ?_, ?_⟩
        · show x.1 = _; rw [List.take_of_length_le (by omega)]
        · show [] = _; rw [List.drop_eq_nil_of_le (by omega)]
      · rw [if_neg h2]
        refine ⟨.inr ⟨1, by omega, wf_leaf (by simp; omega) (by simp; omega)⟩, .inr ⟨1, by omega, wf_leaf (by simp; omega) (by simp; omega)⟩, rfl, rfl⟩
  | m + 1, h + 1, top, .inner ks b, a, hh, hm, e, hf, hl, ha => by
    have wt : WfN (.inner ks b) := .inr ⟨h + 1, hh, wf_any e⟩
    have ei := items_inner e (by omega)
    rw [ei] at hf hl ⊢
    obtain ⟨w1, w2, w3, w4, w5, w6⟩ := e
    have so : ∀ x ∈ ks, (sumOf x).1 = ((items x).length : Int) := fun x hx => (sum_wf h false x (by omega) (w6 x hx) (fine_mem hf hx) (Nat.le_trans (len_mem hx) hl)).1
    have es : splitF (m + 1) (.inner ks b) a = match spK ks 0 a with
      | none => (.inner ks b, .nil)
      | some q => (join (rowN (ks.take q.1)) (splitF m (ks.getD q.1 .nil) q.2).1, join (splitF m (ks.getD q.1 .nil) q.2).2 (rowN (ks.drop (q.1 + 1)))) := rfl
    rw [es]
    rcases spK_at ks 0 a so ha (fun x hx => Nat.le_trans (len_mem hx) hl) with ⟨h1, h2⟩ | ⟨j, a', h1, h2, h3, h4, h5, h6⟩
    · rw [h1]
      have hlen : ((ks.flatMap items).length : Int) < a := by
        rcases h2 with rfl | h2
        · simp at w2; split at w2 <;> omega
        · exact h2
      refine ⟨wt, .inl rfl, ?_, ?_⟩
      · show items (.inner ks b) = _
        rw [ei, List.take_of_length_le (by omega)]
      · show [] = _; rw [List.drop_eq_nil_of_le (by omega)]
    · rw [h1]
      simp only [Nat.zero_add]
      have mem := getD_in (.nil : Nd) h2
      have fl := flat_len_le h2
      obtain ⟨i1, i2, i3, i4⟩ := split_ok m h false _ a' (by omega) (by omega) (w6 _ mem) (fine_mem hf mem) (Nat.le_trans (len_mem mem) hl) (by omega)
      obtain ⟨r1, r2⟩ := rowN_ok (ks := ks.take j) w1 (by omega) (by rw [List.length_take]; omega) (fun k hk => w6 k (List.mem_of_mem_take hk))
      obtain ⟨r3, r4⟩ := rowN_ok (ks := ks.drop (j + 1)) w1 (by omega) (by rw [List.length_drop]; omega) (fun k hk => w6 k (List.mem_of_mem_drop hk))
      obtain ⟨j1, j2⟩ := join_ok r1 i1 (by rw [r2, i3, List.length_take]; omega)
      obtain ⟨j3, j4⟩ := join_ok i2 r3 (by rw [r4, i4, List.length_drop]; omega)
      refine ⟨j1, j3, ?_, ?_⟩
      · rw [j2, r2, i3]
        conv => rhs; rw [kid_split h2]
        rw [List.flatMap_append, List.flatMap_cons]
        by_cases hn : j = 0
        · subst hn
          have e1 : a = a' := by
            have : a = a' + 0 := by simpa using h6
            omega
          rw [e1, List.take_zero, List.flatMap_nil, List.nil_append, List.nil_append, take_app_l _ _ _ h3]
        · rw [take_app _ _ _ (by omega), take_app_l _ _ _ (by omega)]
          congr 2
          omega
      · rw [j4, r4, i4]
        conv => rhs; rw [kid_split h2]
        rw [List.flatMap_append, List.flatMap_cons]
        by_cases hn : j = 0
        · subst hn
          have e1 : a = a' := by
            have : a = a' + 0 := by simpa using h6
            omega
          rw [e1, List.take_zero, List.flatMap_nil, List.nil_append, drop_app_l _ _ _ h3]
        · rw [drop_app _ _ _ (by omega), drop_app_l _ _ _ (by omega)]
          congr 2
          omega
theorem splitN_ok {n : Nd} {a : Int} (hw : WfN n) (hf : Fine (items n)) (hl : (items n).length ≤ 100000) (ha : a ≤ 9223372036854775807) :
    WfN (splitN n a).1 ∧ WfN (splitN n a).2 ∧ items (splitN n a).1 = (items n).take a.toNat ∧ items (splitN n a).2 = (items n).drop a.toNat := by
  unfold splitN
  rcases hw with rfl | ⟨h, h1, w⟩
  · exact ⟨.inl rfl, .inl rfl, by simp [heightOf, splitF, items_nil], by simp [heightOf, splitF, items_nil]⟩
  · rw [(wf_height w).1]
    exact split_ok _ h true n a h1 (Nat.le_refl _) w hf hl ha
theorem fine_drop {l : List Itm} (h : Fine l) (k : Nat) : Fine (l.drop k) := fun i hi => h i (List.mem_of_mem_drop hi)
theorem replN_ok {n mid : Nd} {from_ to : Int} (hw : WfN n) (hf : Fine (items n)) (hl : (items n).length ≤ 100000) (wm : WfN mid) (hm : (items mid).length ≤ 100000) (h0 : 0 ≤ from_) (h1 : from_ ≤ to) (h2 : to ≤ 9000000000000000000) :
    WfN (splitN n from_).1 ∧ WfN (splitN n from_).2 ∧ items (splitN n from_).2 = (items n).drop from_.toNat ∧ WfN (join (splitN n from_).1 mid) ∧ WfN (splitN (splitN n from_).2 (w64 (to - from_))).2 ∧
    WfN (replN n mid from_ to) ∧ items (replN n mid from_ to) = (items n).take from_.toNat ++ items mid ++ (items n).drop to.toNat := by
  obtain ⟨a1, a2, a3, a4⟩ := splitN_ok (a := from_) hw hf hl (by omega)
  have hd : ((items n).drop from_.toNat).length ≤ 100000 := by rw [List.length_drop]; omega
  obtain ⟨b1, b2, b3, b4⟩ := splitN_ok (n := (splitN n from_).2) (a := w64 (to - from_)) a2 (by rw [a4]; exact fine_drop hf _) (by rw [a4]; exact hd) (by rw [w64_id (by omega) (by omega)]; omega)
  obtain ⟨j1, j2⟩ := join_ok a1 wm (by rw [a3, List.length_take]; omega)
  obtain ⟨j3, j4⟩ := join_ok j1 b2 (by rw [j2, a3, b4, a4, List.length_append, List.length_take, List.length_drop, List.length_drop]; omega)
  refine ⟨a1, a2, a4, j1, b2, j3, ?_⟩
  show items (join (join (splitN n from_).1 mid) (splitN (splitN n from_).2 (w64 (to - from_))).2) = _
  rw [j4, j2, a3, b4, a4, List.drop_drop, w64_id (by omega) (by omega)]
  congr 2
  omega
theorem newT_ok {l : List Itm} (hl : l.length ≤ 30000) (h : ∀ i ∈ l, checkI i = 0) : newT l = (some (buildT l, ()), 0, ()) := by
  unfold newT
  rw [if_neg (by omega), if_pos]
  rw [List.all_eq_true]
  intro i hi
  exact decide_eq_true (h i hi)
theorem newT_zero {l : List Itm} (h : (newT l).2.1 = 0) : l.length ≤ 30000 ∧ (∀ i ∈ l, checkI i = 0) ∧ newT l = (some (buildT l, ()), 0, ()) := by
  unfold newT at h ⊢
  by_cases h1 : l.length > 30000
  · rw [if_pos h1] at h; cases h
  · rw [if_neg h1] at h ⊢
    by_cases h2 : (l.all fun x => decide (checkI x = 0)) = true
    · rw [if_pos h2]
      rw [List.all_eq_true] at h2
      exact ⟨by omega, fun i hi => of_decide_eq_true (h2 i hi), rfl⟩
    · rw [if_neg h2] at h; cases h
end Go.Fr.D16
namespace Go.Fr.D16
open Go Go.Fr Go.Proofs
set_option maxRecDepth 100000
def hs23 : List (Nat × Nat × Hint) := [(430009, 4, ⟨[.slot 430028 t3, .rowC 3 0 950000150 t47 47], [430010, 430026, 430027, 3], [3], []⟩),
  (430009, 11, ⟨[.slot 430044 t3, .rowC 3 0 950000150 t47 47], [430010, 430042, 430043, 3], [3], []⟩),
  (860052, 4, ⟨[.slot 860071 t3, .rowC 3 0 950000150 t47 47], [860053, 860069, 860070, 430010, 430042, 430043, 430044, 3], [430015, 3], []⟩),
  (860052, 11, ⟨[.slot 860087 t3, .rowC 3 0 950000150 t47 47], [860053, 860085, 860086, 430010, 430042, 430043, 430044, 3], [430015, 3], []⟩),
  (1290095, 4, ⟨[.slot 1290114 t3, .rowC 3 0 950000150 t47 47], [1290096, 1290112, 1290113, 860053, 860085, 860086, 860087, 430010, 430042, 430043, 430044, 3], [860058, 430015, 3], []⟩),
  (1290095, 11, ⟨[.slot 1290130 t3, .rowC 3 0 950000150 t47 47], [1290096, 1290128, 1290129, 860053, 860085, 860086, 860087, 430010, 430042, 430043, 430044, 3], [860058, 430015, 3], []⟩),
  (1720138, 4, ⟨[.slot 1720157 t3, .rowC 3 0 950000150 t47 47], [1720139, 1720155, 1720156, 1290096, 1290128, 1290129, 1290130, 860053, 860085, 860086, 860087, 430010, 430042, 430043, 430044, 3], [1290101, 860058, 430015, 3], []⟩),
  (1720138, 11, ⟨[.slot 1720173 t3, .rowC 3 0 950000150 t47 47], [1720139, 1720171, 1720172, 1290096, 1290128, 1290129, 1290130, 860053, 860085, 860086, 860087, 430010, 430042, 430043, 430044, 3], [1290101, 860058, 430015, 3], []⟩)]
def nm23 : List Nat := [3000000047]
noncomputable def E23 : Env := env tab [(30, cTop)] [(43, Tryd.f43), (42, Tryd.f42)] gl hs23 nm23
def vc23 : Prop :=
 ∀ (x : Option (Nd × Unit) × Unit),
 let y :=  (List.getD (optL (NT.asInner (topT x.fst))) (0 : Nat)  (([], (0, zS, ())) : List Nd × Nx)).fst;
 let y_1 := (List.getD (optL (NT.asLeaf (topT x.fst))) (0 : Nat) (([], zS, ()) : Lf)).fst;
 let y_2 := topT x.fst;
 let y_3 := Option.isSome (NT.asInner y_2);
 let y_4 := Option.isSome (NT.asLeaf y_2);
 let y_5 := (↑(List.length y_1) : Int);
 let y_6 := (↑(List.length y) : Int);
 (y_2 = (NT.nil : Nd) ∨ ∃ (h : Nat), h ≤ (4 : Nat) ∧ Wf h true y_2) ∧ List.length (items y_2) ≤ (100000 : Nat) →
 True ∧
 (y_4 = true →
 y_4 = true ∧
 (((0 : Int) = (0 : Int) ∧ True ∧ y_1 = y_1 ∧ y_5 = y_5 ∧ True) ∧ True ∧ True ∧ True) ∧
 ∃ (Z : Int × List Itm × Unit → Prop),
 ∃ (μ : Int × List Itm × Unit → Nat),
 Z ((0 : Int), [], ()) ∧
 ∀ (a : Int),
 let y := [List.getD y_1 (Int.toNat a) (Ty.dflt t47)];
 let y_7 := IntKind.wrap IntKind.i64 (a + (1 : Int));
 ∀ (a_1 : List Itm),
 let y_8 := (y_7, a_1 ++ y, ());
 let y_9 := (a, a_1, ());
 Z y_9 →
 (decide (a < y_5) = true →
 ((0 : Int) ≤ a ∧ a < y_5) ∧
 (List.length a_1 + List.length y) * (64 : Nat) ≤ (140737488355328 : Nat) ∧
 List.length a_1 + List.length y ≤ maxLen ∧
 ((y_7 = y_7 ∧ True ∧ y_1 = y_1 ∧ y_5 = y_5 ∧ True) ∧
 True ∧ a_1 ++ y = a_1 ++ y ∧ True) ∧
 Z y_8 ∧ μ y_8 < μ y_9) ∧
 (decide (a < y_5) = false → a_1 = items y_2)) ∧
 (y_4 = false →
 (y_3 = true →
 Option.isSome (NT.asInner y_2) = true ∧
 (((0 : Int) = (0 : Int) ∧ True ∧ y = y ∧ y_6 = y_6 ∧ True) ∧ True ∧ True ∧ True) ∧
 ∃ (Z : Int × List Itm × Unit → Prop),
 ∃ (μ : Int × List Itm × Unit → Nat),
 Z ((0 : Int), [], ()) ∧
 ∀ (a : Int),
 let y_7 :=  (List.getD  (optL  (NT.asInner  (List.getD y (Int.toNat a)  (NT.nil : Nd))))  (0 : Nat)  (([], (0, zS, ())) : List Nd × Nx)).fst;
 let y_8 :=  (List.getD  (optL  (NT.asLeaf  (List.getD y (Int.toNat a)  (NT.nil : Nd))))  (0 : Nat) (([], zS, ()) : Lf)).fst;
 let y_9 :=  List.getD y (Int.toNat a)  (NT.nil : Nd);
 let y_10 := IntKind.wrap IntKind.i64 (a + (1 : Int));
 let y_11 := Option.isSome (NT.asInner y_9);
 let y_12 := Option.isSome (NT.asLeaf y_9);
 let y_13 := (↑(List.length y_8) : Int);
 let y_14 := (↑(List.length y_7) : Int);
 ∀ (a_1 : List Itm),
 let y_15 := (a_1, ());
 let y_16 := (a, y_15);
 let y_17 := (y_10, y_15);
 Z y_16 →
 (decide (a < y_6) = true →
 ((0 : Int) ≤ a ∧ a < y_6) ∧
 (y_12 = true →
 y_12 = true ∧
 (((0 : Int) = (0 : Int) ∧
 True ∧
 y_8 = y_8 ∧ y_13 = y_13 ∧ True ∧ y = y ∧ y_6 = y_6 ∧ a = a ∧ True) ∧
 True ∧ a_1 = a_1 ∧ True) ∧
 ∃ (Z_1 :
 Int ×
 List Itm ×
 Unit →
 Prop),
 ∃ (μ_1 :
 Int ×
 List
 Itm ×
 Unit →
 Nat),
 Z_1 ((0 : Int), y_15) ∧
 ∀ (a_5 : Int),
 let y_18 := [List.getD y_8 (Int.toNat a_5) (Ty.dflt t47)];
 let y_19 := IntKind.wrap IntKind.i64 (a_5 + (1 : Int));
 ∀
 (a_6 :
 List
 Itm),
 let y_20 := (a_6, ());
 let y_21 := (y_19, a_6 ++ y_18, ());
 let y_22 := (a_5, y_20);
 let y_23 := (y_10, y_20);
 Z_1 y_22 →
 (decide (a_5 < y_13) = true →
 ((0 : Int) ≤ a_5 ∧ a_5 < y_13) ∧
 (List.length a_6 + List.length y_18) * (64 : Nat) ≤
 (140737488355328 : Nat) ∧
 List.length a_6 + List.length y_18 ≤ maxLen ∧
 ((y_19 = y_19 ∧
 True ∧
 y_8 = y_8 ∧
 y_13 = y_13 ∧
 True ∧ y = y ∧ y_6 = y_6 ∧ a = a ∧ True) ∧
 True ∧ a_6 ++ y_18 = a_6 ++ y_18 ∧ True) ∧
 Z_1 y_21 ∧ μ_1 y_21 < μ_1 y_22) ∧
 (decide (a_5 < y_13) = false →
 ((y_10 = y_10 ∧ True ∧ y = y ∧ y_6 = y_6 ∧ True) ∧
 True ∧ a_6 = a_6 ∧ True) ∧
 Z y_23 ∧ μ y_23 < μ y_16)) ∧
 (y_12 = false →
 (y_11 = true →
 Option.isSome (NT.asInner y_9) = true ∧
 (((0 : Int) = (0 : Int) ∧
 True ∧
 y_7 = y_7 ∧
 y_14 = y_14 ∧ True ∧ y = y ∧ y_6 = y_6 ∧ a = a ∧ True) ∧
 True ∧ a_1 = a_1 ∧ True) ∧
 ∃ (Z_1 :
 Int ×
 List
 Itm ×
 Unit →
 Prop),
 ∃ (μ_1 :
 Int ×
 List
 Itm ×
 Unit →
 Nat),
 Z_1 ((0 : Int), y_15) ∧
 ∀ (a_6 : Int),
 let y_18 :=  (List.getD  (optL  (NT.asInner  (List.getD y_7 (Int.toNat a_6)  (NT.nil : Nd))))  (0 : Nat)  (([], (0, zS, ())) : List Nd × Nx)).fst;
 let y_19 :=  (List.getD  (optL  (NT.asLeaf  (List.getD y_7 (Int.toNat a_6)  (NT.nil : Nd))))  (0 : Nat) (([], zS, ()) : Lf)).fst;
 let y_20 :=  List.getD y_7 (Int.toNat a_6)  (NT.nil : Nd);
 let y_21 := IntKind.wrap IntKind.i64 (a_6 + (1 : Int));
 let y_22 := Option.isSome (NT.asInner y_20);
 let y_23 := Option.isSome (NT.asLeaf y_20);
 let y_24 := (↑(List.length y_19) : Int);
 let y_25 := (↑(List.length y_18) : Int);
 ∀
 (a_7 :
 List
 Itm),
 let y_26 := (a_7, ());
 let y_27 := (a_6, y_26);
 let y_28 := (y_21, y_26);
 let y_29 := (y_10, y_26);
 Z_1 y_27 →
 (decide (a_6 < y_14) = true →
 ((0 : Int) ≤ a_6 ∧ a_6 < y_14) ∧
 (y_23 = true →
 y_23 = true ∧
 (((0 : Int) = (0 : Int) ∧
 True ∧
 y_19 = y_19 ∧
 y_24 = y_24 ∧
 True ∧
 y_7 = y_7 ∧
 y_14 = y_14 ∧
 a_6 = a_6 ∧
 True ∧
 y = y ∧
 y_6 = y_6 ∧
 a = a ∧ True) ∧
 True ∧ a_7 = a_7 ∧ True) ∧
 ∃ (Z :
 Int ×
 List
 Itm ×
 Unit →
 Prop),
 ∃ (μ :
 Int ×
 List
 Itm ×
 Unit →
 Nat),
 Z ((0 : Int), y_26) ∧
 ∀ (a_11 : Int),
 let y_30 :=  [List.getD y_19 (Int.toNat a_11)  (Ty.dflt t47)];
 let y_31 :=  IntKind.wrap IntKind.i64  (a_11 + (1 : Int));
 ∀
 (a_12 :
 List
 Itm),
 let y_32 := (a_12, ());
 let y_33 :=  (y_31, a_12 ++ y_30, ());
 let y_34 := (a_11, y_32);
 let y_35 := (y_21, y_32);
 Z y_34 →
 (decide (a_11 < y_24) = true →
 ((0 : Int) ≤ a_11 ∧
 a_11 < y_24) ∧
 (List.length a_12 +
 List.length y_30) *
 (64 : Nat) ≤
 (140737488355328 :
 Nat) ∧
 List.length a_12 +
 List.length y_30 ≤
 maxLen ∧
 ((y_31 = y_31 ∧
 True ∧
 y_19 = y_19 ∧
 y_24 = y_24 ∧
 True ∧
 y_7 =
 y_7 ∧
 y_14 =
 y_14 ∧
 a_6 =
 a_6 ∧
 True ∧
 y =
 y ∧
 y_6 =
 y_6 ∧
 a =
 a ∧
 True) ∧
 True ∧
 a_12 ++ y_30 =
 a_12 ++ y_30 ∧
 True) ∧
 Z y_33 ∧
 μ y_33 < μ y_34) ∧
 (decide (a_11 < y_24) = false →
 ((y_21 = y_21 ∧
 True ∧
 y_7 = y_7 ∧
 y_14 = y_14 ∧
 True ∧
 y = y ∧
 y_6 = y_6 ∧
 a = a ∧
 True) ∧
 True ∧
 a_12 = a_12 ∧ True) ∧
 Z_1 y_35 ∧
 μ_1 y_35 < μ_1 y_27)) ∧
 (y_23 = false →
 (y_22 = true →
 Option.isSome (NT.asInner y_20) = true ∧
 (((0 : Int) = (0 : Int) ∧
 True ∧
 y_18 = y_18 ∧
 y_25 = y_25 ∧
 True ∧
 y_7 = y_7 ∧
 y_14 = y_14 ∧
 a_6 = a_6 ∧
 True ∧
 y = y ∧
 y_6 = y_6 ∧
 a = a ∧ True) ∧
 True ∧ a_7 = a_7 ∧ True) ∧
 ∃ (Z :
 Int ×
 List
 Itm ×
 Unit →
 Prop),
 ∃ (μ :
 Int ×
 List
 Itm ×
 Unit →
 Nat),
 Z ((0 : Int), y_26) ∧
 ∀ (a_12 : Int),
 let y_30 :=  (List.getD  (optL  (NT.asInner  (List.getD y_18  (Int.toNat a_12)  (NT.nil : Nd))))  (0 : Nat)  (([], (0, zS, ())) : List Nd × Nx)).fst;
 let y_31 :=  (List.getD  (optL  (NT.asLeaf  (List.getD y_18  (Int.toNat a_12)  (NT.nil : Nd))))  (0 : Nat)  (([], zS, ()) : Lf)).fst;
 let y_32 :=  List.getD y_18 (Int.toNat a_12)  (NT.nil : Nd);
 let y_33 :=  IntKind.wrap IntKind.i64  (a_12 + (1 : Int));
 let y_34 :=  Option.isSome (NT.asInner y_32);
 let y_35 :=  Option.isSome (NT.asLeaf y_32);
 let y_36 :=  (↑(List.length y_31) : Int);
 let y_37 :=  (↑(List.length y_30) : Int);
 ∀
 (a_13 :
 List
 Itm),
 let y_38 := (a_13, ());
 let y_39 := (a_12, y_38);
 let y_40 := (y_33, y_38);
 let y_41 := (y_21, y_38);
 Z y_39 →
 (decide (a_12 < y_25) = true →
 ((0 : Int) ≤ a_12 ∧
 a_12 < y_25) ∧
 (y_35 = true →
 y_35 = true ∧
 (((0 : Int) =
 (0 :
 Int) ∧
 True ∧
 y_31 =
 y_31 ∧
 y_36 =
 y_36 ∧
 True ∧
 y_18 =
 y_18 ∧
 y_25 =
 y_25 ∧
 a_12 =
 a_12 ∧
 True ∧
 y_7 =
 y_7 ∧
 y_14 =
 y_14 ∧
 a_6 =
 a_6 ∧
 True ∧
 y =
 y ∧
 y_6 =
 y_6 ∧
 a =
 a ∧
 True) ∧
 True ∧
 a_13 =
 a_13 ∧
 True) ∧
 ∃ (Z_2 :
 Int ×
 List
 Itm ×
 Unit →
 Prop),
 ∃ (μ_2 :
 Int ×
 List
 Itm ×
 Unit →
 Nat),
 Z_2
 ((0 :
 Int),
 y_38) ∧
 ∀
 (a_17 :
 Int),
 let  y_42 :=  [List.getD  y_31  (Int.toNat  a_17)  (Ty.dflt  t47)];
 let  y_43 :=  IntKind.wrap  IntKind.i64  (a_17 +  (1 :  Int));
 ∀
 (a_18 :
 List
 Itm),
 let  y_44 :=  (a_18,  ());
 let  y_45 :=  (y_43,  a_18 ++  y_42,  ());
 let  y_46 :=  (a_17,  y_44);
 let  y_47 :=  (y_33,  y_44);
 Z_2
 y_46 →
 (decide
 (a_17 <
 y_36) =
 true →
 ((0 :
 Int) ≤
 a_17 ∧
 a_17 <
 y_36) ∧
 (List.length
 a_18 +
 List.length
 y_42) *
 (64 :
 Nat) ≤
 (140737488355328 :
 Nat) ∧
 List.length
 a_18 +
 List.length
 y_42 ≤
 maxLen ∧
 ((y_43 =
 y_43 ∧
 True ∧
 y_31 =
 y_31 ∧
 y_36 =
 y_36 ∧
 True ∧
 y_18 =
 y_18 ∧
 y_25 =
 y_25 ∧
 a_12 =
 a_12 ∧
 True ∧
 y_7 =
 y_7 ∧
 y_14 =
 y_14 ∧
 a_6 =
 a_6 ∧
 True ∧
 y =
 y ∧
 y_6 =
 y_6 ∧
 a =
 a ∧
 True) ∧
 True ∧
 a_18 ++
 y_42 =
 a_18 ++
 y_42 ∧
 True) ∧
 Z_2
 y_45 ∧
 μ_2
 y_45 <
 μ_2
 y_46) ∧
 (decide
 (a_17 <
 y_36) =
 false →
 ((y_33 =
 y_33 ∧
 True ∧
 y_18 =
 y_18 ∧
 y_25 =
 y_25 ∧
 True ∧
 y_7 =
 y_7 ∧
 y_14 =
 y_14 ∧
 a_6 =
 a_6 ∧
 True ∧
 y =
 y ∧
 y_6 =
 y_6 ∧
 a =
 a ∧
 True) ∧
 True ∧
 a_18 =
 a_18 ∧
 True) ∧
 Z
 y_47 ∧
 μ
 y_47 <
 μ
 y_39)) ∧
 (y_35 = false →
 (y_34 = true →
 Option.isSome
 (NT.asInner
 y_32) =
 true ∧
 (((0 : Int) =
 (0 :
 Int) ∧
 True ∧
 y_30 =
 y_30 ∧
 y_37 =
 y_37 ∧
 True ∧
 y_18 =
 y_18 ∧
 y_25 =
 y_25 ∧
 a_12 =
 a_12 ∧
 True ∧
 y_7 =
 y_7 ∧
 y_14 =
 y_14 ∧
 a_6 =
 a_6 ∧
 True ∧
 y =
 y ∧
 y_6 =
 y_6 ∧
 a =
 a ∧
 True) ∧
 True ∧
 a_13 =
 a_13 ∧
 True) ∧
 ∃ (Z_2 :
 Int ×
 List
 Itm ×
 Unit →
 Prop),
 ∃ (μ_2 :
 Int ×
 List
 Itm ×
 Unit →
 Nat),
 Z_2
 ((0 :
 Int),
 y_38) ∧
 ∀
 (a_18 :
 Int),
 let  y_42 :=  List.getD  y_30  (Int.toNat  a_18)  (NT.nil : Nd);
 let  y_43 :=  IntKind.wrap  IntKind.i64  (a_18 +  (1 :  Int));
 let  y_44 :=  Option.isSome  (NT.asInner  y_42);
 let  y_45 :=  Option.isSome  (NT.asLeaf  y_42);
 ∀
 (a_19 :
 List
 Itm),
 let  y_46 :=  (a_19,  ());
 let  y_47 :=  (y_43,  y_46);
 let  y_48 :=  (y_33,  y_46);
 let  y_49 :=  (a_18,  y_46);
 Z_2
 y_49 →
 (decide
 (a_18 <
 y_37) =
 true →
 ((0 :
 Int) ≤
 a_18 ∧
 a_18 <
 y_37) ∧
 (y_45 =
 true →
 y_45 =
 true ∧
 False) ∧
 (y_45 =
 false →
 (y_44 =
 true →
 Option.isSome
 (NT.asInner
 y_42) =
 true ∧
 False) ∧
 (y_44 =
 false →
 ((y_43 =
 y_43 ∧
 True ∧
 y_30 =
 y_30 ∧
 y_37 =
 y_37 ∧
 True ∧
 y_18 =
 y_18 ∧
 y_25 =
 y_25 ∧
 a_12 =
 a_12 ∧
 True ∧
 y_7 =
 y_7 ∧
 y_14 =
 y_14 ∧
 a_6 =
 a_6 ∧
 True ∧
 y =
 y ∧
 y_6 =
 y_6 ∧
 a =
 a ∧
 True) ∧
 True ∧
 a_19 =
 a_19 ∧
 True) ∧
 Z_2
 y_47 ∧
 μ_2
 y_47 <
 μ_2
 y_49))) ∧
 (decide
 (a_18 <
 y_37) =
 false →
 ((y_33 =
 y_33 ∧
 True ∧
 y_18 =
 y_18 ∧
 y_25 =
 y_25 ∧
 True ∧
 y_7 =
 y_7 ∧
 y_14 =
 y_14 ∧
 a_6 =
 a_6 ∧
 True ∧
 y =
 y ∧
 y_6 =
 y_6 ∧
 a =
 a ∧
 True) ∧
 True ∧
 a_19 =
 a_19 ∧
 True) ∧
 Z
 y_48 ∧
 μ
 y_48 <
 μ
 y_39)) ∧
 (y_34 = false →
 ((y_33 = y_33 ∧
 True ∧
 y_18 =
 y_18 ∧
 y_25 =
 y_25 ∧
 True ∧
 y_7 =
 y_7 ∧
 y_14 =
 y_14 ∧
 a_6 =
 a_6 ∧
 True ∧
 y =
 y ∧
 y_6 =
 y_6 ∧
 a =
 a ∧
 True) ∧
 True ∧
 a_13 =
 a_13 ∧
 True) ∧
 Z y_40 ∧
 μ y_40 <
 μ
 y_39))) ∧
 (decide (a_12 < y_25) =
 false →
 ((y_21 = y_21 ∧
 True ∧
 y_7 = y_7 ∧
 y_14 = y_14 ∧
 True ∧
 y = y ∧
 y_6 =
 y_6 ∧
 a = a ∧
 True) ∧
 True ∧
 a_13 = a_13 ∧
 True) ∧
 Z_1 y_41 ∧
 μ_1 y_41 <
 μ_1 y_27)) ∧
 (y_22 = false →
 ((y_21 = y_21 ∧
 True ∧
 y_7 = y_7 ∧
 y_14 = y_14 ∧
 True ∧
 y = y ∧
 y_6 = y_6 ∧ a = a ∧ True) ∧
 True ∧ a_7 = a_7 ∧ True) ∧
 Z_1 y_28 ∧ μ_1 y_28 < μ_1 y_27))) ∧
 (decide (a_6 < y_14) = false →
 ((y_10 = y_10 ∧ True ∧ y = y ∧ y_6 = y_6 ∧ True) ∧
 True ∧ a_7 = a_7 ∧ True) ∧
 Z y_29 ∧ μ y_29 < μ y_16)) ∧
 (y_11 = false →
 ((y_10 = y_10 ∧ True ∧ y = y ∧ y_6 = y_6 ∧ True) ∧
 True ∧ a_1 = a_1 ∧ True) ∧
 Z y_17 ∧ μ y_17 < μ y_16))) ∧
 (decide (a < y_6) = false → a_1 = items y_2)) ∧
 (y_3 = false → [] = items y_2))
theorem vcEq23 : fnVC E23 Tryd.f23 (bodyOf Tryd.f23) cItems = vc23 := by kernel_rfl
end Go.Fr.D16
