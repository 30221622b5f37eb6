/-
  The library's sorts in the walk's words. Conditions: none.
-/
import Derived.Test.YtepnpmaoodljkaaDoorFrX
import Derived.Sort.Row
import Derived.Sort.Grow
namespace Go.Fr
open Go Go.RowKit
section
variable {B : Nat} {w w' : World} {h : PHeap}

theorem row_holds {e : TypeId} {size g n cap : Nat} {cs : List Value} (hown : w.ownsRow B e size (.slice (some ⟨g, 0, none⟩) n cap) n cs) : Sort.Holds id w g 0 cs.toArray := by
  rcases hown.2 with ⟨e0, _⟩ | ⟨g', cap', cur, e0, f1, f2, f3, f4, f5, f6⟩
  · cases e0
  · injection e0 with q1 q2 q3
    injection q1 with q1
    injection q1 with q1
    subst q1 q3
    intro j hj
    have hj' : j < cs.length := by simpa using hj
    have hc : cur.toList[j]? = some cs[j] := by
      have h1 : cs[j]? = some cs[j] := List.getElem?_eq_getElem hj'
      have h3 : (cur.toList.take (n * size))[j]? = some cs[j] := by rw [f6]; exact h1
      rw [List.getElem?_take] at h3
      split at h3
      · exact h3
      · cases h3
    refine ⟨?_, ?_⟩
    · simp only [World.cell?, f2, Nat.zero_add]
      simp only [Array.getElem?_toList] at hc
      simp [hc, hj']
    · simp [World.frozen?, f2]
theorem put_row {e : TypeId} {size g n m cap q : Nat} {cs cs' : List Value} {os : Array Obj} (hs : 0 < size) (hown : w.ownsRow B e size (.slice (some ⟨g, 0, none⟩) n cap) n cs) (hl : cs'.length = n * size) (hm : m ≤ n)
    (hw : w' = Sort.grow (Sort.putRow id (Sort.ahead w q) g 0 cs'.toArray) os) : w'.ownsRow B e size (.slice (some ⟨g, 0, none⟩) m cap) m (cs'.take (m * size)) ∧ GrownBy w w' (some g) := by
  rcases hown.2 with ⟨e0, _⟩ | ⟨g', cap', cur, e0, f1, f2, f3, f4, f5, f6⟩
  · cases e0
  · injection e0 with q1 q2 q3
    injection q1 with q1
    injection q1 with q1
    subst q1 q3
    have hlt : g < w.heap.size := lt_of_heap f2
    have hms : m * size ≤ n * size := Nat.mul_le_mul_right _ hm
    have hncap : n * size ≤ cap * size := Nat.mul_le_mul_right _ f3
    have hg : w'.heap[g]? = some (.cells (Sort.putCells id 0 cs'.toArray cur) e (0, 0)) := by
      rw [hw, Sort.heap_grow_old _ _ (by simp [Sort.ahead]; exact hlt)]
      simp only [Sort.putRow, Sort.mapBlock, Sort.ahead]
      rw [Array.getElem?_modify]
      simp [f2, Sort.onCells]
    refine ⟨⟨by rw [List.length_take, hl]; omega, .inr ⟨g, cap, _, rfl, f1, hg, by omega, f4, by simp [Sort.putCells, f5], ?_⟩⟩, ?_⟩
    · apply List.ext_getElem?
      intro j
      rw [List.getElem?_take, List.getElem?_take]
      by_cases hj : j < m * size
      · rw [if_pos hj, if_pos hj]
        have h1 : j < cur.size := by omega
        have h2 : j < cs'.length := by omega
        simp only [Sort.putCells, Array.toList_mapIdx, List.getElem?_mapIdx, Array.getElem?_toList]
        rw [Array.getElem?_eq_getElem h1]
        simp [h2]
      · rw [if_neg hj, if_neg hj]
    · rw [hw]
      refine ⟨rfl, rfl, rfl, by simp [Sort.ahead], fun k hk hne => ?_, Nat.le_add_right _ _⟩
      rw [Sort.heap_grow_old _ _ (by simp [Sort.ahead]; exact hk)]
      simp only [Sort.putRow, Sort.mapBlock, Sort.ahead]
      rw [Array.getElem?_modify, if_neg (fun e => hne (by rw [e]))]
theorem putRow_id {α : Type} [Inhabited α] (enc : α → Value) (w : World) (g : Nat) (d : List α) : Sort.putRow enc w g 0 d.toArray = Sort.putRow id w g 0 (d.map enc).toArray := by
  refine Sort.mapBlock_congr w g _ _ fun c e fr _ => ?_
  unfold Sort.putCells
  apply Array.ext_getElem?
  intro k
  simp only [Array.getElem?_mapIdx]
  congr 1
  funext x
  by_cases hk : k < d.length
  · simp [hk]
  · simp [hk]
theorem holds_id {α : Type} [Inhabited α] (enc : α → Value) (w : World) (g : Nat) (d : List α) (h : Sort.Holds id w g 0 (d.map enc).toArray) : Sort.Holds enc w g 0 d.toArray := by
  intro j hj
  have hj' : j < d.length := by simpa using hj
  have := h j (by simpa using hj')
  simpa [hj'] using this
theorem ints_cells : (xs : List Int) → (cs : List Value) → RowCells h (.int .i64) xs cs → cs = xs.map (Value.int .i64)
  | [], _, e => by simp only [RowCells] at e; subst e; rfl
  | x :: xs, _, ⟨d, r, e, h1, h2⟩ => by
    simp only [rep] at h1
    subst e h1
    rw [ints_cells xs r h2]
    rfl
theorem ints_row : (xs : List Int) → RowCells h (.int .i64) xs (xs.map (Value.int .i64))
  | [] => rfl
  | x :: xs => ⟨[.int .i64 x], _, rfl, rfl, ints_row xs⟩
theorem grownBy_refl (w : World) (r : Option Nat) : GrownBy w w r := GrownBy.refl w r

/-- A row of numbers that is sorted in place. -/
theorem sort_spec {P : Program} {f : FuncId} {e : TypeId} {fn : Func} {cd : Code} (hf : P.funcs[f]? = some fn) (hname : fn.name ≠ "runtime.NumGoroutine") (hb : fn.body = some cd) {pre : List Int → Prop} {post : List Int → List Int → Prop}
    (hpost : ∀ xs, pre xs → post xs (xs.mergeSort fun x y => decide (x ≤ y))) (hpre : ∀ xs, pre xs → xs.length < 4611686018427387904)
    (H : ∀ (blk off cap : Nat) (zs : List Int) (w : World), Sort.Holds (Value.int .i64) w blk off zs.toArray → blk < w.heap.size → zs.length < 4611686018427387904 →
      Calls P f #[.slice (some ⟨blk, off, none⟩) zs.length cap] w fun e w' => e = .returned (.tuple #[]) ∧ ∃ n os, w' = Sort.grow (Sort.putRow (Value.int .i64) (Sort.ahead w n) blk off (zs.mergeSort fun x y => decide (x ≤ y)).toArray) os)
    (H0 : ∀ (p : Option Addr) (cap : Nat) (w : World), Calls P f #[.slice p 0 cap] w fun e w' => e = .returned (.tuple #[]) ∧ w' = w) :
    RSpec P f { t := .int .i64, e := e, pre := pre, post := post, back := false } := by
  refine ⟨⟨fn, cd, hf, hname, hb⟩, ?_⟩
  intro xs h w B v cs hp hpin hB hown hrc hfr
  have hown : w.ownsRow B e 1 v xs.length cs := hown
  have hrc : RowCells h (.int .i64) xs cs := hrc
  have hcs := ints_cells xs cs hrc
  subst hcs
  simp only [tailVals, List.map_nil, List.append_nil]
  rcases hown.2 with ⟨e0, e1⟩ | ⟨g, cap, cur, e0, f1, f2, f3⟩
  · subst e0
    have hx : xs = [] := List.eq_nil_of_length_eq_zero e1
    subst hx
    refine (H0 none 0 w).mono ?_
    rintro en w' ⟨rfl, rfl⟩
    refine ⟨_, .slice none 0 0, _, [], rfl, hpost [] hp, by simpa using World.ownsRow_nil _ B e (Ty.size (.int .i64)), by simp [RowCells], grownBy_refl _ _, ⟨fun g hg => by simp [Value.ownBlock] at hg, rfl⟩⟩
  · subst e0
    refine (H g 0 cap xs w (holds_id _ w g xs (row_holds hown)) (lt_of_heap f2) (hpre xs hp)).mono ?_
    rintro en w' ⟨rfl, q, os, hw⟩
    rw [putRow_id] at hw
    have hl : (xs.mergeSort fun x y => decide (x ≤ y)).length = xs.length := List.length_mergeSort xs
    obtain ⟨g1, g2⟩ := put_row (m := xs.length) (by decide) hown (by rw [List.length_map, hl, Nat.mul_one]) (Nat.le_refl _) hw
    rw [List.take_of_length_le (by rw [List.length_map, hl]; exact Nat.le_of_eq (Nat.mul_one _).symm)] at g1
    refine ⟨_, _, _, _, rfl, hpost xs hp, by rw [hl]; exact g1, ints_row _, g2, fun g' hg => .inl hg, rfl⟩
/-- A row of numbers of which runs are made one. -/
theorem compact_spec {P : Program} {f : FuncId} {e : TypeId} {fn : Func} {cd : Code} (hf : P.funcs[f]? = some fn) (hname : fn.name ≠ "runtime.NumGoroutine") (hb : fn.body = some cd) {pre : List Int → Prop} {post : List Int → List Int → Prop} {C : List Int → List Int}
    (hC : ∀ xs, (C xs).length ≤ xs.length) (hC0 : C [] = []) (hpost : ∀ xs, pre xs → post xs (C xs)) (hpre : ∀ xs, pre xs → xs.length ≤ 9223372036854775807)
    (H : ∀ (blk off cap : Nat) (zs : List Int) (w : World), Sort.Holds (Value.int .i64) w blk off zs.toArray → zs.length ≤ 9223372036854775807 → zs.length ≤ cap →
      Calls P f #[.slice (some ⟨blk, off, none⟩) zs.length cap] w fun e w' => e = .returned (.slice (some ⟨blk, off, none⟩) (C zs).length cap) ∧ ∃ q, w' = Sort.putRow (Value.int .i64) (Sort.ahead w q) blk off (C zs ++ List.replicate (zs.length - (C zs).length) 0).toArray)
    (H0 : ∀ (p : Option Addr) (cap : Nat) (w : World), Calls P f #[.slice p 0 cap] w fun e w' => e = .returned (.slice p 0 cap) ∧ w' = w) :
    RSpec P f { t := .int .i64, e := e, pre := pre, post := post, back := true } := by
  refine ⟨⟨fn, cd, hf, hname, hb⟩, ?_⟩
  intro xs h w B v cs hp hpin hB hown hrc hfr
  have hown : w.ownsRow B e 1 v xs.length cs := hown
  have hrc : RowCells h (.int .i64) xs cs := hrc
  have hcs := ints_cells xs cs hrc
  subst hcs
  simp only [tailVals, List.map_nil, List.append_nil]
  rcases hown.2 with ⟨e0, e1⟩ | ⟨g, cap, cur, e0, f1, f2, f3, f4⟩
  · subst e0
    have hx : xs = [] := List.eq_nil_of_length_eq_zero e1
    subst hx
    refine (H0 none 0 w).mono ?_
    rintro en w' ⟨rfl, rfl⟩
    have hp2 := hpost [] hp
    rw [hC0] at hp2
    exact ⟨_, .slice none 0 0, [], [], rfl, hp2, World.ownsRow_nil _ B e 1, rfl, grownBy_refl _ _, ⟨fun g hg => by simp [Value.ownBlock] at hg, rfl⟩⟩
  · subst e0
    refine (H g 0 cap xs w (holds_id _ w g xs (row_holds hown)) (hpre xs hp) f3).mono ?_
    rintro en w' ⟨rfl, q, hw⟩
    rw [putRow_id] at hw
    have hl := hC xs
    have hw2 : w' = Sort.grow (Sort.putRow id (Sort.ahead w q) g 0 ((C xs ++ List.replicate (xs.length - (C xs).length) 0).map (Value.int .i64)).toArray) #[] := by rw [hw]; simp
    obtain ⟨g1, g2⟩ := put_row (m := (C xs).length) (by decide) hown (by simp; omega) hl hw2
    have ht : ((C xs ++ List.replicate (xs.length - (C xs).length) 0).map (Value.int .i64)).take ((C xs).length * 1) = (C xs).map (Value.int .i64) := by
      rw [List.map_append]
      have : (C xs).length * 1 = ((C xs).map (Value.int .i64)).length := by rw [List.length_map]; exact Nat.mul_one _
      rw [this]
      exact List.take_left
    rw [ht] at g1
    exact ⟨_, _, _, _, rfl, hpost xs hp, g1, ints_row _, g2, fun g' hg => .inl hg, rfl⟩
end
end Go.Fr
