/-
  The library's sort of structs in the walk's words, by an order in which two may be alike. Conditions: none.
-/
import Derived.Test.YtepnpmaoodljkaaDoorFrX3
namespace Go.Fr
open Go Go.RowKit Go.Proofs Go.Sort
section
variable {α : Type}
theorem perm_of_in [Inhabited α] {d d' : Array α} (h : PermIn 0 d.size d d') : d'.toList.Perm d.toList := by
  obtain ⟨hsz, _, hperm⟩ := h
  have e1 : d'.extract 0 d.size = d' := by rw [← hsz]; exact Array.extract_size
  rw [e1, Array.extract_size] at hperm
  exact hperm
theorem sorted_of_in [Inhabited α] {cf : α → α → Int} {d : Array α} {n : Nat} (hn : n = d.size) (h : SortedIn (ltOf cf) 0 n d) : d.toList.Pairwise (fun a b => ¬ cf b a < 0) := by
  subst hn
  rw [List.pairwise_iff_getElem]
  intro i j hi hj hij
  have hi' : i < d.size := by simpa using hi
  have hj' : j < d.size := by simpa using hj
  have := h i j (Nat.zero_le _) hij hj'
  rw [getElem!_pos d j hj', getElem!_pos d i hi'] at this
  have := of_decide_eq_false this
  simpa using this
/-- Among rows in which no two are alike there is one in order. -/
theorem sort_one_way {cf : α → α → Int} (hO : SWO (ltOf cf)) {xs ys : List α} (hT : ∀ x ∈ xs, ∀ y ∈ xs, ltOf cf x y = false → ltOf cf y x = false → x = y) (hp : ys.Perm xs) (hs : ys.Pairwise (fun a b => ¬ cf b a < 0)) : ys = sortBy cf xs := by
  have hs2 : (sortBy cf xs).Pairwise (fun x y => (!(ltOf cf) y x) = true) := by
    refine List.pairwise_mergeSort ?_ ?_ _
    · intro a b c h1 h2
      simp only [Bool.not_eq_true'] at h1 h2 ⊢
      exact hO.ntrans c b a h2 h1
    · intro a b
      cases h : ltOf cf b a with
      | false => simp
      | true =>
        cases h2 : ltOf cf a b with
        | false => simp
        | true =>
          have := hO.trans a b a h2 h
          rw [hO.irrefl] at this
          cases this
  refine List.Perm.eq_of_pairwise (le := fun x y => (!(ltOf cf) y x) = true) ?_ ?_ hs2 (hp.trans (List.mergeSort_perm _ _).symm)
  · intro a b ha hb h1 h2
    simp only [Bool.not_eq_true'] at h1 h2
    have hb' := (List.mergeSort_perm xs _).subset hb
    exact hT a (hp.subset ha) b hb' h2 h1
  · refine hs.imp fun {a b} h => ?_
    simp only [Bool.not_eq_true']
    exact decide_eq_false h
end
section
/-- A row of structs that is sorted in place: it holds what it held, in order. -/
theorem sortP_spec {P : Program} {ρ : Shelf.Ren} (L : SlLaysF0.n6 P ρ) {T : Ty} (hf : T.flat = true) (ha : T.isAgg = true) (hpos : 0 < T.size) (aE : ∀ w, (isAgg (ρ.t 24)).run P w = .ok true w) (zE : ∀ w, (Go.sizeOf (ρ.t 24)).run P w = .ok T.size w)
    {f : FuncId} (hρ : ρ.f 6 = f) {e : TypeId} {fn : Func} {cd : Code} (hfn : P.funcs[f]? = some fn) (hname : fn.name ≠ "runtime.NumGoroutine") (hb : fn.body = some cd)
    {cf : T.den → T.den → Int} (hO : Sort.SWO (ltOf cf)) {g : FuncId} (eg : ∀ args w, (callFunc g args).run P w = .ok (.enter g args) w) (hC : CallSpec P noGl g (cOrd T cf)) :
    RSpec P f { t := T, e := e, pre := fun xs => List.length xs ≤ 100000, post := fun xs ys => ys.Perm xs ∧ ys.Pairwise (fun a b => ¬ cf b a < 0), back := false, tail := [g] } := by
  subst hρ
  haveI : Inhabited T.den := ⟨T.dflt⟩
  refine ⟨⟨fn, cd, hfn, hname, hb⟩, ?_⟩
  intro xs h w B v cs hp hpin hB hown hrc hfr
  have hp : List.length xs ≤ 100000 := hp
  have hown : w.ownsRow B e T.size v xs.length cs := hown
  have hrc : RowCells h T xs cs := hrc
  have hcs := row_enc hf xs cs hrc
  subst hcs
  rcases hown.2 with ⟨e0, e1⟩ | ⟨g', cap, cur, e0, f1, f2, f3⟩
  · subst e0
    have hx : xs = [] := List.eq_nil_of_length_eq_zero e1
    subst hx
    refine (AnyF.slices_SortFunc_none L none 0 (.func (.func g) #[] #[]) w).mono ?_
    rintro en w' ⟨rfl, rfl⟩
    exact ⟨_, .slice none 0 0, _, [], rfl, ⟨List.Perm.nil, List.Pairwise.nil⟩, World.ownsRow_nil _ B e T.size, by simp [RowCells], grownBy_refl _ _, ⟨fun g hg => by simp [Value.ownBlock] at hg, rfl⟩⟩
  · subst e0
    have hH : HoldsK (encT T) T.size w g' 0 xs.toArray := by
      unfold HoldsK
      rw [flat_list hf]
      exact row_holds hown
    refine (AnyQ.slices_SortFunc L T.size aE zE (encT T) (enc_len hf) (fun x v hv => rep_one (h := h) T x _ (enc_rep T hf x) v hv) cf hO g #[] g' 0 cap xs.toArray w eg (cmp_lays hf ha hC _ _ _ _ _) hH (lt_of_heap f2) (by simp; omega)).mono ?_
    rintro en w' ⟨rfl, d', q, os, hpm, hso, hw⟩
    have hpl := perm_of_in hpm
    have hsl := sorted_of_in (by have := hpm.1; simp at this ⊢; omega) hso
    generalize hys : d'.toList = ys at hpl hsl
    have hd : d' = ys.toArray := by rw [← hys]
    subst hd
    have hl : ys.length = xs.length := by simpa using hpl.length_eq
    have hw2 : w' = Sort.grow (Sort.putRow id (Sort.ahead w q) g' 0 (ys.flatMap (encT T)).toArray) os := by
      rw [hw]
      unfold sortWorldK putRowK
      rw [flat_list hf]
    have hlen := RowCells_len (h := h) T ys _ (enc_row hf ys)
    rw [hl] at hlen
    obtain ⟨g1, g2⟩ := put_row (m := xs.length) hpos hown hlen (Nat.le_refl _) hw2
    rw [List.take_of_length_le (by rw [hlen]; exact Nat.le_refl _)] at g1
    exact ⟨_, _, ys, _, rfl, ⟨by simpa using hpl, hsl⟩, by rw [hl]; exact g1, enc_row hf _, g2, fun g' hg => .inl hg, rfl⟩
end
end Go.Fr
