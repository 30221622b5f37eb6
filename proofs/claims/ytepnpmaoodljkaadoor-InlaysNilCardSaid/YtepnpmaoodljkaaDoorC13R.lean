/-
  Chapter 13: proofs of the conditions: sets are made. Conditions: none.
-/
import Derived.Test.YtepnpmaoodljkaaDoorC13Q
namespace Go.Fr.C13
open Go Go.Fr Go.Proofs

theorem p47 : vc47 := by
  unfold vc47
  simp only [eq_self, true_and, and_true, decide_eq_true_eq, decide_eq_false_iff_not, beq_iff_eq, beq_eq_false_iff_ne, bne_iff_ne, bne_eq_false_iff_eq, Bool.not_eq_true', Bool.not_eq_false', ne_eq, imp_true_iff, implies_true]
  rintro ⟨a, b, ⟨⟩⟩
  simp only [not_true, false_imp_iff, true_and, true_imp_iff]
  unfold cmpI
  refine ⟨fun h => by rw [if_pos h], fun h => ⟨fun h2 => by rw [if_neg h, if_pos h2], fun h2 => by rw [if_neg h, if_neg h2]⟩⟩
theorem firstNZ_drop {l : List Int} {k : Nat} (h : ∀ j, j < k → l.getD j 0 = 0) (hk : k ≤ l.length) : firstNZ l = firstNZ (l.drop k) := by
  induction k with
  | zero => rfl
  | succ k ih =>
    rw [ih (fun j hj => h j (by omega)) (by omega), drop_cons 0 (show k < l.length by omega)]
    show (if l.getD k 0 = 0 then firstNZ (l.drop (k + 1)) else l.getD k 0) = _
    rw [if_pos (h k (by omega))]
theorem p46 : vc46 := by
  unfold vc46
  simp only [eq_self, true_and, and_true, decide_eq_true_eq, decide_eq_false_iff_not, beq_iff_eq, beq_eq_false_iff_ne, bne_iff_ne, bne_eq_false_iff_eq, Bool.not_eq_true', Bool.not_eq_false', ne_eq, imp_true_iff, implies_true]
  rintro ⟨l, ⟨⟩⟩
  simp only [maxLen_eq, d3]
  intro hl
  refine ⟨fun z => ∃ k : Nat, k ≤ l.length ∧ z.1 = (k : Int) ∧ ∀ j, j < k → l.getD j 0 = 0, fun z => l.length - z.1.toNat, ⟨0, Nat.zero_le _, rfl, fun j hj => by omega⟩, ?_⟩
  rintro a ⟨k, hk, rfl, hz⟩
  simp only [toNat_cast]
  refine ⟨fun h1 => ⟨by omega, fun h2 => ?_, fun h2 => ?_⟩, fun h1 => ?_⟩
  · rw [firstNZ_drop hz hk, drop_cons 0 (show k < l.length by omega)]
    simp only [firstNZ]
    rw [if_neg h2]
  · have hw : IntKind.i64.wrap ((k : Int) + 1) = ((k + 1 : Nat) : Int) := wrap_succ (by omega)
    rw [hw, toNat_cast]
    refine ⟨⟨k + 1, by omega, rfl, fun j hj => ?_⟩, by omega⟩
    by_cases e : j = k
    · subst e; exact h2
    · exact hz j (by omega)
  · rw [firstNZ_drop hz hk, show k = l.length by omega, List.drop_length]
    rfl
theorem p26 : vc26 := by
  unfold vc26
  intro x _
  refine ⟨trivial, trivial, trivial, by simp [maxLen_eq], rfl⟩
theorem p34 : vc34 := by
  unfold vc34
  try simp only [eq_self, true_and, and_true, decide_eq_true_eq, decide_eq_false_iff_not, beq_iff_eq, beq_eq_false_iff_ne, bne_iff_ne, bne_eq_false_iff_eq, Bool.not_eq_true', Bool.not_eq_false', ne_eq, imp_true_iff, implies_true]
  rintro ⟨l, ⟨⟩⟩
  simp only [maxLen_eq]
  intro h c hc
  refine ⟨fun h1 => ?_, fun h1 => ⟨by omega, by omega, by simp⟩⟩
  exact (List.eq_nil_of_length_eq_zero (hc h1)).symm
theorem pO34 : vcO34 := by
  unfold vcO34
  try simp only [eq_self, true_and, and_true, decide_eq_true_eq, decide_eq_false_iff_not, beq_iff_eq, beq_eq_false_iff_ne, bne_iff_ne, bne_eq_false_iff_eq, Bool.not_eq_true', Bool.not_eq_false', ne_eq, imp_true_iff, implies_true]
  rintro ⟨l, ⟨⟩⟩
  simp only [maxLen_eq]
  intro h c hc
  refine ⟨fun h1 => ?_, fun h1 => ⟨by omega, by omega, by simp⟩⟩
  exact (List.eq_nil_of_length_eq_zero (hc h1)).symm
theorem p18 : vc18 := by
  unfold vc18
  try simp only [eq_self, true_and, and_true, decide_eq_true_eq, decide_eq_false_iff_not, beq_iff_eq, beq_eq_false_iff_ne, bne_iff_ne, bne_eq_false_iff_eq, Bool.not_eq_true', Bool.not_eq_false', ne_eq, imp_true_iff, implies_true]
  rintro ⟨s, ⟨⟩⟩
  simp only
  intro h
  cases s with
  | none => exact ⟨fun _ => rfl, fun h => by cases h⟩
  | some s => exact ⟨fun h => (by cases h), fun _ => ⟨rfl, h, rfl⟩⟩
theorem pO18 : vcO18 := by
  unfold vcO18
  try simp only [eq_self, true_and, and_true, decide_eq_true_eq, decide_eq_false_iff_not, beq_iff_eq, beq_eq_false_iff_ne, bne_iff_ne, bne_eq_false_iff_eq, Bool.not_eq_true', Bool.not_eq_false', ne_eq, imp_true_iff, implies_true]
  rintro ⟨s, ⟨⟩⟩
  simp only
  intro h
  cases s with
  | none => exact ⟨fun _ => rfl, fun h => by cases h⟩
  | some s => exact ⟨fun h => (by cases h), fun _ => ⟨rfl, h, rfl⟩⟩
theorem p22 : vc22 := by
  unfold vc22
  try simp only [eq_self, true_and, and_true, decide_eq_true_eq, decide_eq_false_iff_not, beq_iff_eq, beq_eq_false_iff_ne, bne_iff_ne, bne_eq_false_iff_eq, Bool.not_eq_true', Bool.not_eq_false', ne_eq, imp_true_iff, implies_true]
  rintro ⟨s, ⟨⟩⟩ -
  simp only
  cases s with
  | none => exact ⟨fun _ => rfl, fun h => by cases h⟩
  | some s => exact ⟨fun h => (by cases h), fun _ => ⟨rfl, rfl⟩⟩
/-! ### Sets are made -/
theorem err_bad {n : Int} {seen : List Inl} {x : Inl} {r : List Inl} (h : wrongW n seen x ≠ 0) : errI n seen (x :: r) = wrongW n seen x := by
  show (if wrongW n seen x ≠ 0 then wrongW n seen x else errI n (seen ++ [x]) r) = _
  rw [if_pos h]
theorem err_on {n : Int} {seen : List Inl} {x : Inl} {r : List Inl} (h : wrongW n seen x = 0) : errI n seen (x :: r) = errI n (seen ++ [x]) r := by
  show (if wrongW n seen x ≠ 0 then wrongW n seen x else errI n (seen ++ [x]) r) = _
  rw [if_neg (by rw [h]; decide)]
theorem wrong_err {n : Int} {l : List Inl} {e : Int} (h0 : ¬ n < 0) (h1 : ¬ n > 1099511627776) (h2 : ¬ (l.length : Int) > 60) (he : errI n [] l = e) : e = wrongN n l := by
  unfold wrongN
  rw [if_neg (by omega), if_neg h2, he]
theorem new_err {n : Int} {l : List Inl} {e : Int} (he : e = wrongN n l) (hne : e ≠ 0) : (none, e, ()) = newI n l := by
  unfold newI
  rw [← he, if_neg hne]
theorem newW_err {n : Int} {l : List Inl} {e : Int} (he : e = wrongN n l) (hne : e ≠ 0) : (0, [], e, ()) = newW n l := by
  unfold newW
  rw [← he, if_neg hne]
theorem wrong_n {n : Int} {l : List Inl} (h : n < 0 ∨ n > 1099511627776) : (1 : Int) = wrongN n l := by
  unfold wrongN
  rw [if_pos h]
theorem wrong_5 {n : Int} {l : List Inl} (h0 : ¬ n < 0) (h1 : ¬ n > 1099511627776) (h2 : (l.length : Int) > 60) : (5 : Int) = wrongN n l := by
  unfold wrongN
  rw [if_neg (by omega), if_pos h2]
theorem errI_ids {n : Int} : (seen l : List Inl) → errI n seen l = 0 → (∀ x ∈ l, wrongI n x = 0 ∧ hasId x.1 seen = false) ∧ l.Pairwise (fun a b => a.1 ≠ b.1)
  | _, [], _ => ⟨fun x hx => (by cases hx), List.Pairwise.nil⟩
  | seen, x :: r, h => by
    by_cases hw : wrongW n seen x = 0
    · rw [err_on hw] at h
      have h1 : wrongI n x = 0 := by
        unfold wrongW at hw
        by_cases g : wrongI n x = 0
        · exact g
        · rw [if_pos g] at hw; exact hw
      have h2 : hasId x.1 seen = false := by
        unfold wrongW at hw
        rw [if_neg (by rw [h1]; decide)] at hw
        cases hc : hasId x.1 seen with
        | false => rfl
        | true => rw [hc, if_pos rfl] at hw; cases hw
      obtain ⟨g1, g2⟩ := errI_ids (seen ++ [x]) r h
      have part : ∀ y ∈ r, hasId y.1 seen = false ∧ x.1 ≠ y.1 := fun y hy => by
        have := (g1 y hy).2
        simp [hasId] at this
        refine ⟨?_, this.2⟩
        simp [hasId]
        exact this.1
      refine ⟨fun y hy => ?_, List.pairwise_cons.2 ⟨fun y hy => (part y hy).2, g2⟩⟩
      rcases List.mem_cons.1 hy with e | hy
      · subst e; exact ⟨h1, h2⟩
      · exact ⟨(g1 y hy).1, (part y hy).1⟩
    · rw [err_bad hw] at h
      exact absurd h hw
theorem ids_one {l : List Inl} (h : l.Pairwise (fun a b => a.1 ≠ b.1)) {x y : Inl} (hx : x ∈ l) (hy : y ∈ l) (e : x.1 = y.1) : x = y := by
  obtain ⟨i, hi, h1⟩ := List.getElem_of_mem hx
  obtain ⟨j, hj, h2⟩ := List.getElem_of_mem hy
  rcases Nat.lt_trichotomy i j with g | g | g
  · have := List.pairwise_iff_getElem.1 h i j hi hj g
    rw [h1, h2] at this
    exact absurd e this
  · subst g; rw [← h1, ← h2]
  · have := List.pairwise_iff_getElem.1 h j i hj hi g
    rw [h1, h2] at this
    exact absurd e.symm this
theorem one_way {l ys : List Inl} (h : l.Pairwise (fun a b => a.1 ≠ b.1)) (hp : ys.Perm l) (hs : ys.Pairwise (fun a b => ¬ cmpL b a < 0)) : ys = sortI l :=
  sort_one_way swoL (fun x hx y hy h1 h2 => ids_one h hx hy (alikeL h1 h2)) hp hs
theorem clean_ids {l : List Inl} (h : l.Pairwise (fun a b => a.1 ≠ b.1)) : (l.map cleanI).Pairwise (fun a b => a.1 ≠ b.1) := by
  rw [List.pairwise_map]
  exact h
/-- The map of numbers. -/
def keysU (l : List Inl) : List (Int × Unit × Unit) := l.map fun x => (x.1, (), ())
theorem mget_keysU (i : Int) : (l : List Inl) → (mget t3 t61 i (keysU l) = none ↔ hasId i l = false) ∧ (Option.isSome (mget t3 t61 i (keysU l)) = true ↔ hasId i l = true)
  | [] => by simp [keysU, mget, hasId]
  | x :: r => by
    have ih := mget_keysU i r
    have e : mget t3 t61 i (keysU (x :: r)) = bif Ty.beq t3 i x.1 then some () else mget t3 t61 i (keysU r) := rfl
    rw [e]
    by_cases h : i = x.1
    · rw [show Ty.beq t3 i x.1 = true from by simp [Ty.beq, h]]
      simp [hasId, h]
    · rw [show Ty.beq t3 i x.1 = false from by simp [Ty.beq, h]]
      have hx : ¬ x.1 = i := fun hh => h hh.symm
      simp only [cond_false, hasId, List.any_cons, hx, decide_false, Bool.false_or]
      exact ih
theorem keysU_snoc {l : List Inl} {k : Nat} (h : k < l.length) : keysU (l.take (k + 1)) = keysU (l.take k) ++ [((l.getD k zI).1, (), ())] := by
  rw [take_snoc' h]
  simp [keysU]
theorem clean_snoc {l : List Inl} {k : Nat} (h : k < l.length) : (l.take (k + 1)).map cleanI = (l.take k).map cleanI ++ [((l.getD k zI).1, (l.getD k zI).2.1, (l.getD k zI).2.2.1, (l.getD k zI).2.2.2.1, clean (txt (l.getD k zI)), ())] := by
  rw [take_snoc' h, List.map_append]
  rfl
theorem p10 : vc10 := by
  unfold vc10
  simp only [eq_self, true_and, and_true, decide_eq_true_eq, decide_eq_false_iff_not, beq_iff_eq, beq_eq_false_iff_ne, bne_iff_ne, bne_eq_false_iff_eq, Bool.not_eq_true', Bool.not_eq_false', ne_eq, imp_true_iff, implies_true]
  rintro ⟨n, l, ⟨⟩⟩
  simp only [maxLen_eq, d42]
  rintro ⟨hlm, hsh⟩
  have w1 : (n < 0 ∨ n > 1099511627776) → (none, (1 : Int), ()) = newI n l := fun h => new_err (wrong_n h) (by decide)
  refine ⟨fun h0 => w1 (.inl h0), fun h0 => ⟨fun h1 => w1 (.inr h1), fun h1 => ⟨fun h2 => new_err (wrong_5 h0 h1 h2) (by decide), fun h2 => ?_⟩⟩⟩
  refine ⟨fun z => ∃ k : Nat, k ≤ l.length ∧ z.1 = (k : Int) ∧ z.2.1 = keysU (l.take k) ∧ z.2.2.1 = (l.take k).map cleanI ∧ errI n [] l = errI n (l.take k) (l.drop k), fun z => l.length - z.1.toNat, ⟨0, Nat.zero_le _, rfl, rfl, rfl, rfl⟩, ?_⟩
  rintro i m o ⟨k, hk, hi, hm, ho, he⟩
  simp only at hi hm ho
  subst hi hm
  have hol : o.length = k := by rw [ho]; simp; omega
  refine ⟨fun h3 => ?_, fun h3 => ?_⟩
  · have hk' : k < l.length := by omega
    have hd := drop_cons zI hk'
    have htk := take_snoc' hk'
    have hks := keysU_snoc hk'
    have hcs := clean_snoc hk'
    have hsx := hsh _ (List.getElem_mem hk')
    rw [← getD_of zI hk'] at hsx
    rw [hd] at he
    rw [toNat_cast]
    generalize hx : l.getD k zI = x at he htk hks hcs hsx ⊢
    have hwk : IntKind.i64.wrap ((k : Int) + 1) = ((k + 1 : Nat) : Int) := wrap_succ (by omega)
    obtain ⟨g1, g2⟩ := mget_keysU x.1 (l.take k)
    have et : x.2.2.2.2.1 = txt x := rfl
    rw [hwk, et]
    simp only [List.length_singleton, toNat_cast]
    have bad : ¬ wrongI n x = 0 → (none, wrongI n x, ()) = newI n l := fun h => by
      have e : wrongW n (l.take k) x = wrongI n x := (ww_1 rfl h).symm
      exact new_err (wrong_err h0 h1 h2 (he.trans ((err_bad (by rw [e]; exact h)).trans e))) h
    have same : wrongI n x = 0 → Option.isSome (mget t3 t61 x.1 (keysU (l.take k))) = true → (none, (8 : Int), ()) = newI n l := fun h hs => by
      have e : wrongW n (l.take k) x = 8 := (ww_8 h.symm (g2.1 hs)).symm
      exact new_err (wrong_err h0 h1 h2 (he.trans ((err_bad (by rw [e]; decide)).trans e))) (by decide)
    refine ⟨⟨by omega, h3⟩, by omega, bad, fun h4 => ⟨same h4, fun h5 => ?_⟩⟩
    have hno : hasId x.1 (l.take k) = false := by
      cases hc : hasId x.1 (l.take k) with
      | false => rfl
      | true => rw [g2.2 hc] at h5; cases h5
    have Zf : ∃ k' : Nat, k' ≤ l.length ∧ ((k + 1 : Nat) : Int) = (k' : Int) ∧ keysU (l.take k) ++ [(x.1, (), ())] = keysU (l.take k') ∧ o ++ [(x.1, x.2.1, x.2.2.1, x.2.2.2.1, clean (txt x), ())] = (l.take k').map cleanI ∧ errI n [] l = errI n (l.take k') (l.drop k') :=
      ⟨k + 1, hk', rfl, hks.symm, by rw [hcs, ho], by rw [he, err_on (ww_0 h4.symm hno).symm, htk]⟩
    have f1 : (o.length + 1) * 48 ≤ 140737488355328 := by omega
    have f2 : o.length + 1 ≤ 9223372036854775807 := by omega
    have f3 : l.length - (k + 1) < l.length - k := by omega
    exact ⟨g1.2 hno, by omega, ⟨f1, f2, Zf, f3⟩, ⟨f1, f2, Zf, f3⟩, f1, f2, Zf, f3⟩
  · have hke : k = l.length := by omega
    subst hke
    rw [List.take_length, List.drop_length] at he
    rw [List.take_length] at ho
    have he : errI n [] l = 0 := he
    refine ⟨by omega, ?_⟩
    rintro ys ⟨hp, hs⟩
    have hw : wrongN n l = 0 := (wrong_err h0 h1 h2 he).symm
    unfold newI
    rw [ho] at hp
    rw [if_pos hw, ← one_way (clean_ids (errI_ids [] l he).2) hp hs]
/-! ### The order of inlays -/
theorem insI1_lt {x y : Inl} {r : List Inl} (h : aheadI x y = true) : insI1 x (y :: r) = x :: y :: r := by
  unfold insI1
  rw [if_pos h]
theorem insI1_ge {x y : Inl} {r : List Inl} (h : aheadI x y = false) : insI1 x (y :: r) = y :: insI1 x r := by
  conv => lhs; unfold insI1
  rw [if_neg (by rw [h]; decide)]
theorem insI1_by (x : Inl) : (l : List Inl) → insI1 x l = insBy cmpL x l
  | [] => rfl
  | y :: r => by
    have e : insBy cmpL x (y :: r) = if cmpL x y < 0 then x :: y :: r else y :: insBy cmpL x r := rfl
    rw [e, ← insI1_by x r]
    by_cases h : cmpL x y < 0
    · rw [if_pos h, insI1_lt (ahead_lt.2 h)]
    · rw [if_neg h, insI1_ge (by cases hc : aheadI x y with | false => rfl | true => exact absurd (ahead_lt.1 hc) h)]
theorem insI_by (l : List Inl) : insI l = l.foldl (fun o x => insBy cmpL x o) [] := by
  unfold insI
  congr 1
  funext o x
  exact insI1_by x o
theorem insI1_len (x : Inl) (l : List Inl) : (insI1 x l).length = l.length + 1 := by
  rw [insI1_by]
  have := (insBy_perm (cf := cmpL) x l).length_eq
  simpa using this
theorem insI_perm (l : List Inl) : (insI l).Perm l ∧ (insI l).Pairwise (fun a b => ¬ cmpL b a < 0) := by
  rw [insI_by]
  have := ins_all swoL l [] List.Pairwise.nil
  simpa using this
theorem insI_len (l : List Inl) : (insI l).length = l.length := (insI_perm l).1.length_eq
theorem insI_sort {l : List Inl} (h : l.Pairwise (fun a b => a.1 ≠ b.1)) : insI l = sortI l := one_way h (insI_perm l).1 (insI_perm l).2
theorem insI_snoc {l : List Inl} {k : Nat} (h : k < l.length) : insI ((l.take (k + 1)).map cleanI) = insI1 (cleanI (l.getD k zI)) (insI ((l.take k).map cleanI)) := by
  rw [take_snoc' h, List.map_append]
  simp [insI]
theorem p11 : vc11 := by
  unfold vc11
  simp only [eq_self, true_and, and_true, decide_eq_true_eq, decide_eq_false_iff_not, beq_iff_eq, beq_eq_false_iff_ne, bne_iff_ne, bne_eq_false_iff_eq, Bool.not_eq_true', Bool.not_eq_false', ne_eq, imp_true_iff, implies_true]
  rintro ⟨n, l, ⟨⟩⟩
  simp only [maxLen_eq, d42]
  rintro ⟨hlm, hsh⟩
  have w1 : (n < 0 ∨ n > 1099511627776) → ((0 : Int), [], (1 : Int), ()) = newW n l := fun h => newW_err (wrong_n h) (by decide)
  refine ⟨fun h0 => w1 (.inl h0), fun h0 => ⟨fun h1 => w1 (.inr h1), fun h1 => ⟨fun h2 => newW_err (wrong_5 h0 h1 h2) (by decide), fun h2 => ?_⟩⟩⟩
  refine ⟨fun z => ∃ k : Nat, k ≤ l.length ∧ z.2.1 = (k : Int) ∧ z.1 = insI ((l.take k).map cleanI) ∧ errI n [] l = errI n (l.take k) (l.drop k), fun z => l.length - z.2.1.toNat, ⟨0, Nat.zero_le _, rfl, rfl, rfl⟩, ?_⟩
  rintro out i ⟨j, hk, hi, ho, he⟩
  simp only at hi ho
  subst hi
  refine ⟨fun h3 => ?_, fun h3 => ?_⟩
  · have hk' : j < l.length := by omega
    have hd := drop_cons zI hk'
    have htk := take_snoc' hk'
    have hlt : (l.take j).length = j := by simp; omega
    have hol : out.length = j := by rw [ho, insI_len, List.length_map, hlt]
    have hlast := insI_snoc hk'
    rw [← ho] at hlast
    have hsx := hsh _ (List.getElem_mem hk')
    rw [← getD_of zI hk'] at hsx
    rw [hd] at he
    have hwk : IntKind.i64.wrap ((j : Int) + 1) = ((j + 1 : Nat) : Int) := wrap_succ (by omega)
    rw [toNat_cast, hol, hlt, hwk]
    generalize l.getD j zI = x at he htk hlast hsx ⊢
    have dl := decL_len (txt x)
    have ec : ((x.1, x.2.1, x.2.2.1, x.2.2.2.1, encode (decodeL x.2.2.2.2.1), ()) : Inl) = cleanI x := rfl
    have et : x.2.2.2.2.1 = txt x := rfl
    rw [ec, et]
    refine ⟨⟨by omega, h3⟩, ⟨by omega, by omega⟩, ⟨by omega, by omega⟩, fun h4 => ?_, fun h4 => ⟨by omega, by omega, ?_⟩⟩
    · exact newW_err (wrong_err h0 h1 h2 (he.trans (err_bad h4))) h4
    have he2 : errI n [] l = errI n (l.take (j + 1)) (l.drop (j + 1)) := by rw [he, err_on h4, htk]
    generalize cleanI x = x at hlast ⊢
    have fin : ∀ o : List Inl, o = insI1 x out → (∃ k' : Nat, k' ≤ l.length ∧ ((j + 1 : Nat) : Int) = (k' : Int) ∧ o = insI ((l.take k').map cleanI) ∧ errI n [] l = errI n (l.take k') (l.drop k')) ∧ l.length - (((j + 1 : Nat) : Int)).toNat < l.length - ((j : Int)).toNat :=
      fun o hoo => ⟨⟨j + 1, hk', rfl, by rw [hlast, hoo], he2⟩, by rw [toNat_cast, toNat_cast]; omega⟩
    refine ⟨fun z => ∃ m : Nat, m ≤ j ∧ z.2.2.1 = (m : Int) ∧ z.1.length ≤ j + 1 ∧ (z.2.1 = true → z.1 ++ out.drop m = insI1 x out) ∧ (z.2.1 = false → z.1 = out.take m ∧ insI1 x out = out.take m ++ insI1 x (out.drop m)), fun z => j - z.2.2.1.toNat,
      ⟨0, Nat.zero_le _, rfl, Nat.zero_le _, fun h => (by cases h), fun _ => ⟨rfl, rfl⟩⟩, ?_⟩
    rintro nx put i ⟨m, hm, hi, hnl, ht, hf⟩
    simp only at hi hnl ht hf
    subst hi
    refine ⟨fun h8 => ?_, fun h8 => ?_⟩
    · have hm' : m < out.length := by omega
      have hdm := drop_cons zI hm'
      have htm := take_snoc' (l := out) hm'
      rw [toNat_cast]
      generalize hy : out.getD m zI = y at hdm htm ⊢
      have hwm : IntKind.i64.wrap ((m : Int) + 1) = ((m + 1 : Nat) : Int) := wrap_succ (by omega)
      rw [hwm]
      have nlen : put = false → nx.length = m := fun h => by rw [(hf h).1]; simp; omega
      have tlen : put = true → nx.length = m + 1 := fun h => by
        have := congrArg List.length (ht h)
        rw [insI1_len, List.length_append, List.length_drop] at this
        omega
      have goPut : put = false → aheadI x y = true → (∃ m' : Nat, m' ≤ j ∧ ((m + 1 : Nat) : Int) = (m' : Int) ∧ (nx ++ [x] ++ [y]).length ≤ j + 1 ∧ (True → nx ++ [x] ++ [y] ++ out.drop m' = insI1 x out) ∧ (true = false → nx ++ [x] ++ [y] = out.take m' ∧ insI1 x out = out.take m' ++ insI1 x (out.drop m'))) ∧ j - (((m + 1 : Nat) : Int)).toNat < j - ((m : Int)).toNat := by
        intro hp hl
        obtain ⟨q1, q2⟩ := hf hp
        refine ⟨⟨m + 1, by omega, rfl, by have := nlen hp; simp; omega, fun _ => ?_, fun h => by cases h⟩, by rw [toNat_cast, toNat_cast]; omega⟩
        rw [q2, hdm, insI1_lt hl, q1]
        simp
      have goOn : put = false → aheadI x y = false → (∃ m' : Nat, m' ≤ j ∧ ((m + 1 : Nat) : Int) = (m' : Int) ∧ (nx ++ [y]).length ≤ j + 1 ∧ (put = true → nx ++ [y] ++ out.drop m' = insI1 x out) ∧ (put = false → nx ++ [y] = out.take m' ∧ insI1 x out = out.take m' ++ insI1 x (out.drop m'))) ∧ j - (((m + 1 : Nat) : Int)).toNat < j - ((m : Int)).toNat := by
        intro hp hl
        obtain ⟨q1, q2⟩ := hf hp
        refine ⟨⟨m + 1, by omega, rfl, by have := nlen hp; simp; omega, fun h => (by rw [hp] at h; cases h), fun _ => ⟨by rw [htm, q1], ?_⟩⟩, by rw [toNat_cast, toNat_cast]; omega⟩
        rw [q2, hdm, insI1_ge hl, htm]
        simp
      have goTail : put = true → (∃ m' : Nat, m' ≤ j ∧ ((m + 1 : Nat) : Int) = (m' : Int) ∧ (nx ++ [y]).length ≤ j + 1 ∧ (put = true → nx ++ [y] ++ out.drop m' = insI1 x out) ∧ (put = false → nx ++ [y] = out.take m' ∧ insI1 x out = out.take m' ++ insI1 x (out.drop m'))) ∧ j - (((m + 1 : Nat) : Int)).toNat < j - ((m : Int)).toNat := by
        intro hp
        refine ⟨⟨m + 1, by omega, rfl, by have := tlen hp; simp; omega, fun _ => ?_, fun h => (by rw [hp] at h; cases h)⟩, by rw [toNat_cast, toNat_cast]; omega⟩
        rw [← ht hp, hdm]
        simp
      simp only [List.length_append, List.length_singleton, List.length_cons, List.length_nil]
      simp only [List.length_append, List.length_singleton, List.length_cons, List.length_nil] at goPut goOn goTail
      refine ⟨⟨by omega, h8⟩, fun h9 => ⟨fun h10 => ⟨by omega, by omega, by omega, by omega, goPut h9 h10⟩, fun h10 => ⟨by omega, by omega, goOn h9 h10⟩⟩, fun h9 => ⟨by omega, by omega, goTail h9⟩⟩
    · have hmj : m = out.length := by omega
      have hm2 : m = j := by omega
      subst hm2
      refine ⟨fun h9 => ?_, fun h9 => ?_⟩
      · obtain ⟨q1, q2⟩ := hf h9
        have e1 : nx ++ [x] = insI1 x out := by
          rw [q2, q1, hmj, List.drop_length]
          rfl
        refine ⟨by simp; omega, by simp; omega, ?_⟩
        exact fin _ e1
      · have e1 : nx = insI1 x out := by
          rw [← ht h9, hmj, List.drop_length, List.append_nil]
        exact fin _ e1
  · have hke : j = l.length := by omega
    subst hke
    rw [List.take_length] at ho he
    rw [List.drop_length] at he
    have hw : wrongN n l = 0 := (wrong_err h0 h1 h2 he).symm
    unfold newW
    rw [if_pos hw, ho]
theorem p14 : vc14 := by
  unfold vc14
  simp only [eq_self, true_and, and_true, decide_eq_true_eq, decide_eq_false_iff_not, beq_iff_eq, beq_eq_false_iff_ne, bne_iff_ne, bne_eq_false_iff_eq, Bool.not_eq_true', Bool.not_eq_false', ne_eq, imp_true_iff, implies_true]
  rintro ⟨s, f, t, ⟨⟩⟩
  simp only [maxLen_eq, d42]
  intro hl
  refine ⟨hl, ?_⟩
  generalize allI s = xs at hl ⊢
  have second : ∀ (a : List Inl) (i j : Int), (∃ i' j' : Nat, i = (i' : Int) ∧ j = (j' : Int) ∧ DelI (inI f t) zI xs a i' j') →
      (j < (a.length : Int) → (0 ≤ j ∧ j < (a.length : Int)) ∧
        (inI f t (a.getD j.toNat zI) = true → (0 ≤ i ∧ i < (a.length : Int)) ∧ (∃ i' j' : Nat, IntKind.i64.wrap (i + 1) = (i' : Int) ∧ IntKind.i64.wrap (j + 1) = (j' : Int) ∧ DelI (inI f t) zI xs (a.set i.toNat (a.getD j.toNat zI)) i' j') ∧ xs.length - (IntKind.i64.wrap (j + 1)).toNat < xs.length - j.toNat) ∧
        (inI f t (a.getD j.toNat zI) = false → (∃ i' j' : Nat, i = (i' : Int) ∧ IntKind.i64.wrap (j + 1) = (j' : Int) ∧ DelI (inI f t) zI xs a i' j') ∧ xs.length - (IntKind.i64.wrap (j + 1)).toNat < xs.length - j.toNat)) ∧
      (¬ j < (a.length : Int) → (0 ≤ i ∧ i < (a.length : Int)) ∧ (0 ≤ i ∧ i ≤ ((a.take i.toNat ++ List.replicate (a.length - i.toNat) zI).length : Int)) ∧ (a.take i.toNat ++ List.replicate (a.length - i.toNat) zI).take i.toNat = xs.filter (inI f t)) := by
    rintro a i j ⟨i', j', rfl, rfl, hd⟩
    have hd' := hd
    obtain ⟨h1, h2, h3, h4, h5⟩ := hd'
    refine ⟨fun h => ?_, fun h => ?_⟩
    · have hw : IntKind.i64.wrap ((j' : Int) + 1) = ((j' + 1 : Nat) : Int) := wrap_succ (by omega)
      have hw2 : IntKind.i64.wrap ((i' : Int) + 1) = ((i' + 1 : Nat) : Int) := wrap_succ (by omega)
      rw [toNat_cast, toNat_cast, hw, hw2]
      have hlt : j' < xs.length := by omega
      refine ⟨⟨by omega, h⟩, fun g => ⟨⟨by omega, by omega⟩, ⟨i' + 1, j' + 1, rfl, rfl, hd.keep hlt g⟩, by rw [toNat_cast]; omega⟩, fun g => ⟨⟨i', j' + 1, rfl, rfl, hd.drop hlt g⟩, by rw [toNat_cast]; omega⟩⟩
    · have hj : j' = xs.length := by omega
      subst hj
      rw [toNat_cast, List.length_append, List.length_take, List.length_replicate]
      exact ⟨⟨by omega, by omega⟩, ⟨by omega, by omega⟩, hd.last zI⟩
  refine ⟨fun z => ∃ k : Nat, k ≤ xs.length ∧ z.1 = (k : Int) ∧ ∀ j, j < k → inI f t (xs.getD j zI) = true, fun z => xs.length - z.1.toNat, ⟨0, Nat.zero_le _, rfl, fun j hj => by omega⟩, ?_⟩
  rintro i ⟨k, hk, hi, hs⟩
  simp only at hi
  subst hi
  refine ⟨fun h => ?_, fun h => ?_⟩
  · have hlt : k < xs.length := by omega
    have hw : IntKind.i64.wrap ((k : Int) + 1) = ((k + 1 : Nat) : Int) := wrap_succ (by omega)
    rw [toNat_cast, hw]
    have next : inI f t (xs.getD k zI) = true → (∃ k' : Nat, k' ≤ xs.length ∧ ((k + 1 : Nat) : Int) = (k' : Int) ∧ ∀ j, j < k' → inI f t (xs.getD j zI) = true) ∧ xs.length - (((k + 1 : Nat) : Int)).toNat < xs.length - (k : Int).toNat := fun g =>
      ⟨⟨k + 1, hlt, rfl, fun j hj => by
        by_cases e : j = k
        · subst e; exact g
        · exact hs j (by omega)⟩, by rw [toNat_cast, toNat_cast]; omega⟩
    have out : inI f t (xs.getD k zI) = false → ∃ (Z : List Inl × Int × Int × Unit → Prop), ∃ (μ : List Inl × Int × Int × Unit → Nat), Z (xs, (k : Int), ((k + 1 : Nat) : Int), ()) ∧ ∀ (a : List Inl) (i j : Int), Z (a, i, j, ()) →
        (j < (a.length : Int) → (0 ≤ j ∧ j < (a.length : Int)) ∧
          ((a.getD j.toNat zI).2.1 < f → (True → Z (a, i, IntKind.i64.wrap (j + 1), ()) ∧ μ (a, i, IntKind.i64.wrap (j + 1), ()) < μ (a, i, j, ()))) ∧
          (¬ (a.getD j.toNat zI).2.1 < f → (¬ (a.getD j.toNat zI).2.1 > t → (0 ≤ i ∧ i < (a.length : Int)) ∧ Z (a.set i.toNat (a.getD j.toNat zI), IntKind.i64.wrap (i + 1), IntKind.i64.wrap (j + 1), ()) ∧ μ (a.set i.toNat (a.getD j.toNat zI), IntKind.i64.wrap (i + 1), IntKind.i64.wrap (j + 1), ()) < μ (a, i, j, ())) ∧
            ((a.getD j.toNat zI).2.1 > t → Z (a, i, IntKind.i64.wrap (j + 1), ()) ∧ μ (a, i, IntKind.i64.wrap (j + 1), ()) < μ (a, i, j, ())))) ∧
        (¬ j < (a.length : Int) → (0 ≤ i ∧ i < (a.length : Int)) ∧ (0 ≤ i ∧ i ≤ ((a.take i.toNat ++ List.replicate (a.length - i.toNat) zI).length : Int)) ∧ (a.take i.toNat ++ List.replicate (a.length - i.toNat) zI).take i.toNat = xs.filter (inI f t)) := fun g => by
      refine ⟨fun z => ∃ i' j' : Nat, z.2.1 = (i' : Int) ∧ z.2.2.1 = (j' : Int) ∧ DelI (inI f t) zI xs z.1 i' j', fun z => xs.length - z.2.2.1.toNat, ⟨k, k + 1, rfl, rfl, DelI.init hlt hs g⟩, fun a i j hz => ?_⟩
      obtain ⟨s1, s2⟩ := second a i j hz
      refine ⟨fun h => ?_, s2⟩
      obtain ⟨q1, q2, q3⟩ := s1 h
      exact ⟨q1, fun g1 => fun _ => q3 (inI_f.2 (by omega)), fun g1 => ⟨fun g2 => q2 (inI_t.2 (by omega)), fun g2 => q3 (inI_f.2 (by omega))⟩⟩
    refine ⟨⟨by omega, h⟩, fun g1 => ⟨fun g2 => by omega, fun _ => ?_⟩, fun g1 => ⟨fun g2 => ⟨fun g3 => by omega, fun _ => ?_⟩, fun g2 => next (inI_t.2 (by omega))⟩⟩
    · obtain ⟨Z, μ, z0, hz⟩ := out (inI_f.2 (by omega))
      refine ⟨Z, μ, z0, fun a i j hZ => ?_⟩
      obtain ⟨s1, s2⟩ := hz a i j hZ
      exact ⟨fun h => ⟨(s1 h).1, fun g => ⟨fun hh => absurd hh (by decide), (s1 h).2.1 g⟩, (s1 h).2.2⟩, s2⟩
    · obtain ⟨Z, μ, z0, hz⟩ := out (inI_f.2 (by omega))
      refine ⟨Z, μ, z0, fun a i j hZ => ?_⟩
      obtain ⟨s1, s2⟩ := hz a i j hZ
      exact ⟨fun h => ⟨(s1 h).1, fun g => ⟨fun hh => absurd hh (by decide), (s1 h).2.1 g⟩, (s1 h).2.2⟩, s2⟩
  · have hke : k = xs.length := by omega
    subst hke
    have hfw := filter_whole (f := inI f t) (d := zI) hs
    refine ⟨fun _ => hfw.symm, fun h => absurd trivial h⟩
end Go.Fr.C13
