/-
  Sorting by an order that parts whatever two are not one: inserting one by one gives the same. Conditions: none.
-/
import Derived.Test.YtepnpmaoodljkaaDoorFrX3
namespace Go.Fr
open Go Go.Proofs Go.Sort
def insBy {α : Type} (cf : α → α → Int) (x : α) : List α → List α
  | [] => [x]
  | y :: r => if cf x y < 0 then x :: y :: r else y :: insBy cf x r
section
variable {α : Type} {cf : α → α → Int}
theorem uniq_sorted {le : α → α → Prop} (anti : ∀ a b, le a b → le b a → a = b) : (l m : List α) → l.Perm m → l.Pairwise le → m.Pairwise le → l = m
  | [], m, hp, _, _ => (List.nil_perm.1 hp).symm
  | x :: l, [], hp, _, _ => by have := hp.length_eq; simp at this
  | x :: l, y :: m, hp, h1, h2 => by
    have hx := List.pairwise_cons.1 h1
    have hy := List.pairwise_cons.1 h2
    have e : x = y := by
      have m1 : x ∈ y :: m := hp.subset (List.mem_cons_self ..)
      have m2 : y ∈ x :: l := hp.symm.subset (List.mem_cons_self ..)
      rcases List.mem_cons.1 m1 with e | m1
      · exact e
      · rcases List.mem_cons.1 m2 with e | m2
        · exact e.symm
        · exact anti _ _ (hx.1 _ m2) (hy.1 _ m1)
    subst e
    rw [uniq_sorted anti l m (List.Perm.cons_inv hp) hx.2 hy.2]
theorem insBy_perm (x : α) : (l : List α) → (insBy cf x l).Perm (x :: l)
  | [] => List.Perm.refl _
  | y :: r => by
    unfold insBy
    split
    · exact List.Perm.refl _
    · exact ((insBy_perm x r).cons y).trans (List.Perm.swap x y r)
theorem lt_of {x y : α} : ltOf cf x y = true ↔ cf x y < 0 := by unfold ltOf; simp
theorem lt_of_f {x y : α} : ltOf cf x y = false ↔ ¬ cf x y < 0 := by unfold ltOf; simp
theorem insBy_sorted (hO : SWO (ltOf cf)) (x : α) : (l : List α) → l.Pairwise (fun a b => ¬ cf b a < 0) → (insBy cf x l).Pairwise (fun a b => ¬ cf b a < 0)
  | [], _ => by simp [insBy]
  | y :: r, h => by
    have hy := List.pairwise_cons.1 h
    unfold insBy
    split
    · rename_i hxy
      refine List.pairwise_cons.2 ⟨fun z hz => ?_, h⟩
      rcases List.mem_cons.1 hz with e | hz
      · subst e
        intro h2
        have := hO.trans _ _ _ (lt_of.2 hxy) (lt_of.2 h2)
        rw [hO.irrefl] at this
        cases this
      · intro h2
        exact hy.1 z hz (lt_of.1 (hO.trans _ _ _ (lt_of.2 h2) (lt_of.2 hxy)))
    · rename_i hxy
      refine List.pairwise_cons.2 ⟨fun z hz => ?_, insBy_sorted hO x r hy.2⟩
      rcases List.mem_cons.1 ((insBy_perm x r).subset hz) with e | hz
      · subst e; exact hxy
      · exact hy.1 z hz
theorem sortBy_perm (l : List α) : (sortBy cf l).Perm l := List.mergeSort_perm l _
theorem sortBy_sorted (hO : SWO (ltOf cf)) (l : List α) : (sortBy cf l).Pairwise (fun a b => ¬ cf b a < 0) := by
  have := List.pairwise_mergeSort (le := fun x y => !decide (cf y x < 0)) (fun a b c h1 h2 => by
    simp only [Bool.not_eq_true', decide_eq_false_iff_not] at *
    exact lt_of_f.1 (hO.ntrans _ _ _ (lt_of_f.2 h2) (lt_of_f.2 h1))) (fun a b => by
    simp only [Bool.or_eq_true, Bool.not_eq_true', decide_eq_false_iff_not]
    by_cases h : cf b a < 0
    · right
      intro h2
      have := hO.trans _ _ _ (lt_of.2 h) (lt_of.2 h2)
      rw [hO.irrefl] at this
      cases this
    · exact .inl h) l
  exact this.imp fun h => by simpa using h
theorem sorted_is (hO : SWO (ltOf cf)) (hT : ∀ x y, ltOf cf x y = false → ltOf cf y x = false → x = y) {l m : List α} (hp : l.Perm m) (hs : l.Pairwise (fun a b => ¬ cf b a < 0)) : l = sortBy cf m :=
  uniq_sorted (fun a b h1 h2 => hT a b (lt_of_f.2 h2) (lt_of_f.2 h1)) l _ (hp.trans (sortBy_perm m).symm) hs (sortBy_sorted hO m)
theorem ins_all (hO : SWO (ltOf cf)) (l out : List α) (h : out.Pairwise (fun a b => ¬ cf b a < 0)) : (l.foldl (fun o x => insBy cf x o) out).Perm (out ++ l) ∧ (l.foldl (fun o x => insBy cf x o) out).Pairwise (fun a b => ¬ cf b a < 0) := by
  induction l generalizing out with
  | nil => simpa using h
  | cons x r ih =>
    obtain ⟨h1, h2⟩ := ih (insBy cf x out) (insBy_sorted hO x out h)
    refine ⟨h1.trans ?_, h2⟩
    have := (insBy_perm (cf := cf) x out).append_right r
    exact this.trans (by simpa using (List.perm_middle (a := x) (l₁ := out) (l₂ := r)).symm)
theorem ins_sort (hO : SWO (ltOf cf)) (hT : ∀ x y, ltOf cf x y = false → ltOf cf y x = false → x = y) (l : List α) : l.foldl (fun o x => insBy cf x o) [] = sortBy cf l := by
  obtain ⟨h1, h2⟩ := ins_all hO l [] List.Pairwise.nil
  exact sorted_is hO hT (by simpa using h1) h2
end

/-! ### Those that are let go -/
section
variable {α : Type} {f : α → Bool} {d : α}
theorem take_one (d : α) {l : List α} {k : Nat} (h : k < l.length) : l.take (k + 1) = l.take k ++ [l.getD k d] := by
  rw [List.take_succ_eq_append_getElem h]
  simp [List.getD, h]
theorem getD_is (d : α) {l : List α} {k : Nat} (h : k < l.length) : l.getD k d = l[k] := by simp [List.getD, h]
/-- What is kept of the first places lies ahead; behind is all as it was. -/
def DelI (f : α → Bool) (d : α) (xs a : List α) (i j : Nat) : Prop := a.length = xs.length ∧ j ≤ xs.length ∧ i < j ∧ a.take i = (xs.take j).filter f ∧ ∀ q, j ≤ q → a.getD q d = xs.getD q d
theorem filter_one {xs : List α} {j : Nat} (h : j < xs.length) : (xs.take (j + 1)).filter f = (xs.take j).filter f ++ (if f (xs.getD j d) then [xs.getD j d] else []) := by
  rw [take_one d h, List.filter_append]
  congr 1
  by_cases hk : f (xs.getD j d) = true
  · rw [List.filter_cons_of_pos hk, if_pos hk]; rfl
  · rw [List.filter_cons_of_neg hk, if_neg hk]; rfl
theorem DelI.keep {xs a : List α} {i j : Nat} (h : DelI f d xs a i j) (hj : j < xs.length) (hk : f (a.getD j d) = true) : DelI f d xs (a.set i (a.getD j d)) (i + 1) (j + 1) := by
  obtain ⟨h1, h2, h3, h4, h5⟩ := h
  have e := h5 j (Nat.le_refl _)
  rw [e] at hk ⊢
  refine ⟨by rw [List.length_set]; exact h1, hj, by omega, ?_, fun q hq => ?_⟩
  · rw [filter_one (d := d) hj, if_pos hk, ← h4]
    rw [List.take_succ_eq_append_getElem (by rw [List.length_set]; omega), List.take_set_of_le (Nat.le_refl _), List.getElem_set_self]
  · rw [← h5 q (by omega), List.getD_eq_getElem?_getD, List.getElem?_set_ne (by omega), ← List.getD_eq_getElem?_getD]
theorem DelI.drop {xs a : List α} {i j : Nat} (h : DelI f d xs a i j) (hj : j < xs.length) (hk : f (a.getD j d) = false) : DelI f d xs a i (j + 1) := by
  obtain ⟨h1, h2, h3, h4, h5⟩ := h
  have e := h5 j (Nat.le_refl _)
  rw [e] at hk
  refine ⟨h1, hj, by omega, ?_, fun q hq => h5 q (by omega)⟩
  rw [filter_one (d := d) hj, if_neg (by rw [hk]; decide), List.append_nil]
  exact h4
theorem DelI.init {xs : List α} {k : Nat} (hk : k < xs.length) (hs : ∀ j, j < k → f (xs.getD j d) = true) (hn : f (xs.getD k d) = false) : DelI f d xs xs k (k + 1) := by
  refine ⟨rfl, hk, by omega, ?_, fun q _ => rfl⟩
  rw [filter_one (d := d) hk, if_neg (by rw [hn]; decide), List.append_nil]
  rw [List.filter_eq_self.2]
  intro m hm
  obtain ⟨i, hi, e⟩ := List.getElem_of_mem hm
  rw [List.length_take] at hi
  have := hs i (by omega)
  rw [getD_is d (by omega)] at this
  rw [← e, List.getElem_take]
  exact this
theorem filter_whole {xs : List α} (hs : ∀ j, j < xs.length → f (xs.getD j d) = true) : xs.filter f = xs := by
  rw [List.filter_eq_self]
  intro m hm
  obtain ⟨i, hi, e⟩ := List.getElem_of_mem hm
  have := hs i hi
  rw [getD_is d hi, e] at this
  exact this
/-- The row's beginning, behind the last places being cleared. -/
theorem DelI.last {xs a : List α} {i : Nat} (h : DelI f d xs a i xs.length) (z : α) : (a.take i ++ List.replicate (a.length - i) z).take i = xs.filter f := by
  obtain ⟨h1, h2, h3, h4, h5⟩ := h
  rw [List.take_append_of_le_length (by rw [List.length_take]; omega), List.take_take, Nat.min_self, h4, List.take_length]
end
end Go.Fr
