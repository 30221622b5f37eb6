/-
  The library's sort of structs in the walk's words. Conditions: none.
-/
import Derived.Test.YtepnpmaoodljkaaDoorFrX2
import Derived.Shelf.SlSortCmp.NoneTotal
namespace Go.Fr
open Go Go.RowKit Go.Proofs Go.Sort
section
variable {B : Nat} {w w' : World} {h : PHeap}

/-- The cells of data without addresses. -/
def encT : (T : Ty) → T.den → List Value
  | .bool, b => [.bool b]
  | .int k, n => [.int k n]
  | .str, s => [.string s]
  | .unit, _ => []
  | .sl _, _ => []
  | .opt _, _ => []
  | .mp _ _, _ => []
  | .nd _ _ _ _, _ => []
  | .pair a b, x => encT a x.1 ++ encT b x.2
theorem enc_rep : (T : Ty) → T.flat = true → (x : T.den) → rep h T x (encT T x)
  | .bool, _, _ => rfl
  | .int _, _, _ => rfl
  | .str, _, _ => rfl
  | .unit, _, _ => rfl
  | .sl _, e, _ => by cases e
  | .opt _, e, _ => by cases e
  | .mp _ _, e, _ => by cases e
  | .nd _ _ _ _, e, _ => by cases e
  | .pair a b, e, x => by
    simp only [Ty.flat, Bool.and_eq_true] at e
    exact ⟨_, _, rfl, enc_rep a e.1 x.1, enc_rep b e.2 x.2⟩
theorem rep_enc : (T : Ty) → T.flat = true → (x : T.den) → (cs : List Value) → rep h T x cs → cs = encT T x
  | .bool, _, _, _, e => e
  | .int _, _, _, _, e => e
  | .str, _, _, _, e => e
  | .unit, _, _, _, e => e
  | .sl _, e, _, _, _ => by cases e
  | .opt _, e, _, _, _ => by cases e
  | .mp _ _, e, _, _, _ => by cases e
  | .nd _ _ _ _, e, _, _, _ => by cases e
  | .pair a b, e, x, cs, ⟨c1, c2, q, h1, h2⟩ => by
    simp only [Ty.flat, Bool.and_eq_true] at e
    rw [q, rep_enc a e.1 x.1 c1 h1, rep_enc b e.2 x.2 c2 h2]
    rfl
theorem row_enc {T : Ty} (hf : T.flat = true) : (xs : List T.den) → (cs : List Value) → RowCells h T xs cs → cs = xs.flatMap (encT T)
  | [], _, e => by simp only [RowCells] at e; subst e; rfl
  | x :: xs, _, ⟨d, r, e, h1, h2⟩ => by
    subst e
    rw [row_enc hf xs r h2, rep_enc T hf x d h1]
    rfl
theorem enc_row {T : Ty} (hf : T.flat = true) : (xs : List T.den) → RowCells h T xs (xs.flatMap (encT T))
  | [] => rfl
  | x :: xs => ⟨encT T x, xs.flatMap (encT T), rfl, enc_rep T hf x, enc_row hf xs⟩
theorem enc_len {T : Ty} (hf : T.flat = true) (x : T.den) : (encT T x).length = T.size := rep_len (h := fun _ => none) T x _ (enc_rep T hf x)
theorem flatMap_get {T : Ty} (hf : T.flat = true) (d0 : T.den) : (xs : List T.den) → (j : Nat) → j < xs.length * T.size → (xs.flatMap (encT T))[j]? = (encT T (xs.getD (j / T.size) d0))[j % T.size]?
  | [], j, hj => by simp at hj
  | x :: xs, j, hj => by
    have hl := enc_len hf x
    have h0 : 0 < T.size := by
      rcases Nat.eq_zero_or_pos T.size with e | e
      · rw [e, Nat.mul_zero] at hj; omega
      · exact e
    rw [List.flatMap_cons]
    by_cases hlt : j < T.size
    · rw [List.getElem?_append_left (by omega), Nat.div_eq_of_lt hlt, Nat.mod_eq_of_lt hlt]
      rfl
    · rw [List.getElem?_append_right (by omega), hl, flatMap_get hf d0 xs (j - T.size) (by simp only [List.length_cons, Nat.add_mul] at hj; omega)]
      have e : j = (j - T.size) + T.size := by omega
      have e1 : j / T.size = (j - T.size) / T.size + 1 := by
        conv => lhs; rw [e]
        exact Nat.add_div_right _ h0
      have e2 : j % T.size = (j - T.size) % T.size := by
        conv => lhs; rw [e]
        exact Nat.add_mod_right _ _
      rw [e1, e2]
      rfl
theorem flat_list {T : Ty} (hf : T.flat = true) [Inhabited T.den] (xs : List T.den) : flatK (encT T) T.size xs.toArray = (xs.flatMap (encT T)).toArray := by
  have hlen : (xs.flatMap (encT T)).length = xs.length * T.size := by
    have := RowCells_len (h := fun _ => none) T xs _ (enc_row hf xs)
    exact this
  apply Array.ext
  · simp [hlen]
  · intro j h1 h2
    have hj : j < xs.length * T.size := by simpa [hlen] using h2
    have g := get_flatK (encT T) T.size xs.toArray (t := j) (by simpa using hj)
    rw [getElem!_pos _ j h1] at g
    rw [g]
    have := flatMap_get hf default xs j hj
    have h0 : 0 < T.size := by
      rcases Nat.eq_zero_or_pos T.size with e | e
      · rw [e, Nat.mul_zero] at hj; omega
      · exact e
    have hd : j / T.size < xs.length := Nat.div_lt_of_lt_mul (by rw [Nat.mul_comm]; exact hj)
    have e1 : xs.toArray[j / T.size]! = xs.getD (j / T.size) default := by
      simp [List.getD, hd]
    rw [e1]
    have hm : j % T.size < (encT T (xs.getD (j / T.size) default)).length := by rw [enc_len hf]; exact Nat.mod_lt _ h0
    rw [List.getElem?_eq_getElem hm] at this
    rw [getElem!_pos (encT T (xs.getD (j / T.size) default)) (j % T.size) hm]
    have h2' : (xs.flatMap (encT T))[j]? = some ((xs.flatMap (encT T)).toArray[j]) := by simp
    rw [h2'] at this
    injection this with this
    exact this.symm

/-- Worlds that grew, whatever was drawn. -/
theorem grow_of {w w' : World} (hb : Below w.heap.size w w') : ∃ q os', w' = Sort.grow (w.drewN q) os' := by
  refine ⟨w'.drawn - w.drawn, w'.heap.extract w.heap.size w'.heap.size, ?_⟩
  have hheap : w'.heap = w.heap ++ w'.heap.extract w.heap.size w'.heap.size := by
    apply Array.ext_getElem?
    intro i
    rw [Array.getElem?_append]
    split
    · rename_i hi; exact hb.block i hi
    · rename_i hi
      rw [Array.getElem?_extract]
      by_cases hi2 : i < w'.heap.size
      · rw [if_pos (by omega), show w.heap.size + (i - w.heap.size) = i by omega]
      · rw [if_neg (by omega), Array.getElem?_eq_none (by omega)]
  have hd := hb.drawn
  cases w' with
  | mk heap tape drawn os output =>
    simp only [Sort.grow, World.drewN] at *
    have h1 := hb.os
    have h2 := hb.tape
    have h3 := hb.output
    simp only at h1 h2 h3
    rw [← hheap, h1, h2, h3]
    congr 1
    omega

theorem cmp_lays {P : Program} {T : Ty} [Inhabited T.den] (hf : T.flat = true) (ha : T.isAgg = true) {cf : T.den → T.den → Int} {g : FuncId} (hC : CallSpec P noGl g (cOrd T cf)) (blk off size k : Nat) (w : World) :
    CmpLays P g #[] (encT T) k cf blk off size w := by
  intro m os dk hs x y
  have := hC.2 (x, y, ()) (fun _ => none) (sortWorldK (encT T) k w blk off m dk os) [T.val (encT T x), T.val (encT T y)] trivial ⟨_, _, rfl, ⟨_, enc_rep T hf x, rfl⟩, _, _, rfl, ⟨_, enc_rep T hf y, rfl⟩, rfl⟩ (fun k o hk => by cases hk) (fun g T x hg => by cases hg)
  rw [val_agg ha, val_agg ha] at this
  have e : ([Value.agg (encT T x).toArray, Value.agg (encT T y).toArray] ++ tailVals (cOrd T cf).tail).toArray = #[Value.agg (encT T x).toArray, Value.agg (encT T y).toArray] ++ #[] := by simp [tailVals, cOrd]
  rw [e] at this
  refine this.mono ?_
  rintro e w' ⟨v, h', rfl, _, _, _, hr, hb⟩
  refine ⟨?_, grow_of hb⟩
  obtain ⟨cs, q1, q2⟩ := (show vrep h' (.int .i64) (cf x y) v from hr)
  simp only [rep] at q1
  subst q1
  rw [q2]
  rfl

/-- A row of structs that is sorted in place, by an order that parts whatever two are not one. -/
theorem sortF_spec {P : Program} {ρ : Shelf.Ren} (L : SlLaysF0.n6 P ρ) {T : Ty} (hf : T.flat = true) (ha : T.isAgg = true) (hpos : 0 < T.size) (aE : ∀ w, (isAgg (ρ.t 24)).run P w = .ok true w) (zE : ∀ w, (Go.sizeOf (ρ.t 24)).run P w = .ok T.size w)
    {f : FuncId} (hρ : ρ.f 6 = f) {e : TypeId} {fn : Func} {cd : Code} (hfn : P.funcs[f]? = some fn) (hname : fn.name ≠ "runtime.NumGoroutine") (hb : fn.body = some cd)
    {cf : T.den → T.den → Int} (hO : Sort.SWO (ltOf cf)) (hT : ∀ x y, (ltOf cf) x y = false → (ltOf cf) y x = false → x = y) {g : FuncId} (eg : ∀ args w, (callFunc g args).run P w = .ok (.enter g args) w) (hC : CallSpec P noGl g (cOrd T cf)) :
    RSpec P f { t := T, e := e, pre := fun xs => List.length xs ≤ 100000, post := fun xs ys => ys = sortBy cf xs, back := false, tail := [g] } := by
  subst hρ
  haveI : Inhabited T.den := ⟨T.dflt⟩
  refine ⟨⟨fn, cd, hfn, hname, hb⟩, ?_⟩
  intro xs h w B v cs hp hpin hB hown hrc hfr
  have hp : List.length xs ≤ 100000 := hp
  have hown : w.ownsRow B e T.size v xs.length cs := hown
  have hrc : RowCells h T xs cs := hrc
  have hcs := row_enc hf xs cs hrc
  subst hcs
  rcases hown.2 with ⟨e0, e1⟩ | ⟨g', cap, cur, e0, f1, f2, f3⟩
  · subst e0
    have hx : xs = [] := List.eq_nil_of_length_eq_zero e1
    subst hx
    refine (AnyF.slices_SortFunc_none L none 0 (.func (.func g) #[] #[]) w).mono ?_
    rintro en w' ⟨rfl, rfl⟩
    exact ⟨_, .slice none 0 0, _, [], rfl, rfl, by simpa [sortBy] using World.ownsRow_nil _ B e T.size, by simp [RowCells, sortBy], grownBy_refl _ _, ⟨fun g hg => by simp [Value.ownBlock] at hg, rfl⟩⟩
  · subst e0
    have hH : HoldsK (encT T) T.size w g' 0 xs.toArray := by
      unfold HoldsK
      rw [flat_list hf]
      exact row_holds hown
    refine (AnyQ.slices_SortFunc_total L T.size aE zE (encT T) (enc_len hf) (fun x v hv => rep_one (h := h) T x _ (enc_rep T hf x) v hv) cf hO g #[] g' 0 cap xs.toArray w eg (cmp_lays hf ha hC _ _ _ _ _) hH (lt_of_heap f2) (by simp; omega) hT).mono ?_
    rintro en w' ⟨rfl, q, os, hw⟩
    have hl : (sortBy cf xs).length = xs.length := List.length_mergeSort xs
    have hw2 : w' = Sort.grow (Sort.putRow id (Sort.ahead w q) g' 0 ((sortBy cf xs).flatMap (encT T)).toArray) os := by
      rw [hw]
      unfold sortWorldK putRowK
      rw [flat_list hf]
      rfl
    have hlen := RowCells_len (h := h) T (sortBy cf xs) _ (enc_row hf (sortBy cf xs))
    rw [hl] at hlen
    obtain ⟨g1, g2⟩ := put_row (m := xs.length) hpos hown hlen (Nat.le_refl _) hw2
    rw [List.take_of_length_le (by rw [hlen]; exact Nat.le_refl _)] at g1
    refine ⟨_, _, sortBy cf xs, _, rfl, rfl, by rw [hl]; exact g1, enc_row hf _, g2, fun g' hg => .inl hg, rfl⟩
end
end Go.Fr
