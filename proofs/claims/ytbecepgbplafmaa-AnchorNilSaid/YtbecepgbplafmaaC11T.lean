/-
  Chapter 11: proofs of the conditions: sets are made, read and shifted. Conditions: none.
-/
import Derived.Test.YtbecepgbplafmaaC11R
namespace Go.Fr.C11
open Go Go.Fr Go.Proofs

theorem errA_ids {n : Int} : (seen l : List Anc) → errA n seen l = 0 → (∀ x ∈ l, okA n x = true ∧ hasId x.1 seen = false) ∧ l.Pairwise (fun a b => a.1 ≠ b.1)
  | _, [], _ => ⟨fun x hx => (by cases hx), List.Pairwise.nil⟩
  | seen, x :: r, h => by
    unfold errA at h
    cases h1 : okA n x with
    | false => simp [h1] at h
    | true =>
      cases h2 : hasId x.1 seen with
      | true => simp [h1, h2] at h
      | false =>
        simp only [h1, h2, Bool.true_eq_false, Bool.false_eq_true, if_false] at h
        obtain ⟨g1, g2⟩ := errA_ids (seen ++ [x]) r h
        have part : ∀ y ∈ r, hasId y.1 seen = false ∧ x.1 ≠ y.1 := fun y hy => by
          have := (g1 y hy).2
          simp [hasId] at this
          refine ⟨?_, this.2⟩
          simp [hasId]
          exact this.1
        refine ⟨fun y hy => ?_, List.pairwise_cons.2 ⟨fun y hy => (part y hy).2, g2⟩⟩
        rcases List.mem_cons.1 hy with e | hy
        · subst e; exact ⟨h1, h2⟩
        · exact ⟨(g1 y hy).1, (part y hy).1⟩
theorem ids_one {l : List Anc} (h : l.Pairwise (fun a b => a.1 ≠ b.1)) {x y : Anc} (hx : x ∈ l) (hy : y ∈ l) (e : x.1 = y.1) : x = y := by
  obtain ⟨i, hi, h1⟩ := List.getElem_of_mem hx
  obtain ⟨j, hj, h2⟩ := List.getElem_of_mem hy
  rcases Nat.lt_trichotomy i j with g | g | g
  · have := List.pairwise_iff_getElem.1 h i j hi hj g
    rw [h1, h2] at this
    exact absurd e this
  · subst g; rw [← h1, ← h2]
  · have := List.pairwise_iff_getElem.1 h j i hj hi g
    rw [h1, h2] at this
    exact absurd e.symm this
theorem one_way {l ys : List Anc} (h : l.Pairwise (fun a b => a.1 ≠ b.1)) (hp : ys.Perm l) (hs : ys.Pairwise (fun a b => ¬ cmpA b a < 0)) : ys = sortA l :=
  sort_one_way swoA (fun x hx y hy h1 h2 => ids_one h hx hy (alikeA h1 h2)) hp hs
theorem insA_sort {l : List Anc} (h : l.Pairwise (fun a b => a.1 ≠ b.1)) : insA l = sortA l := one_way h (insA_perm l).1 (insA_perm l).2
theorem keysA_snoc {l : List Anc} {k : Nat} (h : k < l.length) : keysA (l.take (k + 1)) = keysA (l.take k) ++ [((l.getD k zA).1, l.getD k zA, ())] := by
  rw [take_snoc' h]
  simp [keysA]
theorem p9 : vc9 := by
  unfold vc9
  simp only [eq_self, true_and, and_true, decide_eq_true_eq, decide_eq_false_iff_not, beq_iff_eq, beq_eq_false_iff_ne, bne_iff_ne, bne_eq_false_iff_eq, Bool.not_eq_true', Bool.not_eq_false', ne_eq, imp_true_iff, implies_true]
  rintro ⟨n, l, ⟨⟩⟩
  simp only [maxLen_eq, d36, mget_getL]
  intro hlm
  have w1 : (n < 0 ∨ n > 1099511627776) → (none, (1 : Int), ()) = newA n l := fun h => new_err (wrong_n h) (by decide)
  refine ⟨fun h0 => w1 (.inl h0), fun h0 => ⟨fun h1 => w1 (.inr h1), fun h1 => ⟨fun h2 => new_err (wrong_5 h0 h1 h2) (by decide), fun h2 => ⟨by omega, ?_⟩⟩⟩⟩
  refine ⟨fun z => ∃ k : Nat, k ≤ l.length ∧ z.1 = (k : Int) ∧ z.2.1 = keysA (l.take k) ∧ errA n [] l = errA n (l.take k) (l.drop k), fun z => l.length - z.1.toNat, ⟨0, Nat.zero_le _, rfl, rfl, rfl⟩, ?_⟩
  rintro i m ⟨k, hk, hi, hm, he⟩
  simp only at hi hm
  subst hi hm
  refine ⟨fun h3 => ?_, fun h3 => ?_⟩
  · have hk' : k < l.length := by omega
    have hd := drop_cons zA hk'
    have htk := take_snoc' hk'
    have hks := keysA_snoc hk'
    rw [hd] at he
    rw [toNat_cast]
    generalize hx : l.getD k zA = x at he htk hks ⊢
    have hwk : IntKind.i64.wrap ((k : Int) + 1) = ((k + 1 : Nat) : Int) := wrap_succ (by omega)
    obtain ⟨g1, g2⟩ := getL_keys x.1 (l.take k)
    rw [hwk]
    have bad : ¬ (0 ≤ x.2.1 ∧ x.2.1 ≤ n ∧ (x.2.2.1 = 0 ∨ x.2.2.1 = 1)) → (none, (1 : Int), ()) = newA n l := fun h => new_err (wrong_err h0 h1 h2 (he.trans (err_bad (okA_no.2 h)))) (by decide)
    have same : (0 ≤ x.2.1 ∧ x.2.1 ≤ n ∧ (x.2.2.1 = 0 ∨ x.2.2.1 = 1)) → Option.isSome (getL x.1 (keysA (l.take k))) = true → (none, (8 : Int), ()) = newA n l := fun h hs =>
      new_err (wrong_err h0 h1 h2 (he.trans (err_same (okA_iff.2 h) (g2.1 hs)))) (by decide)
    have go : (0 ≤ x.2.1 ∧ x.2.1 ≤ n ∧ (x.2.2.1 = 0 ∨ x.2.2.1 = 1)) → Option.isSome (getL x.1 (keysA (l.take k))) = false → getL x.1 (keysA (l.take k)) = none ∧
        (∃ k' : Nat, k' ≤ l.length ∧ ((k + 1 : Nat) : Int) = (k' : Int) ∧ keysA (l.take k) ++ [(x.1, x, ())] = keysA (l.take k') ∧ errA n [] l = errA n (l.take k') (l.drop k')) ∧ l.length - (((k + 1 : Nat) : Int)).toNat < l.length - ((k : Int)).toNat := fun h hs => by
      have hno : hasId x.1 (l.take k) = false := by
        cases hc : hasId x.1 (l.take k) with
        | false => rfl
        | true => rw [g2.2 hc] at hs; cases hs
      refine ⟨g1.2 hno, ⟨k + 1, hk', rfl, hks.symm, ?_⟩, by rw [toNat_cast, toNat_cast]; omega⟩
      rw [he, err_on (okA_iff.2 h) hno, htk]
    clear g1 g2 w1
    refine ⟨⟨by omega, h3⟩, ?_⟩
    (repeat' (first | apply And.intro | intro _))
    all_goals first
      | exact bad (by omega)
      | exact same (by omega) (by assumption)
      | exact (go (by omega) (by assumption)).1
      | exact (go (by omega) (by assumption)).2.1
      | exact (go (by omega) (by assumption)).2.2
  · have hke : k = l.length := by omega
    subst hke
    rw [List.take_length, List.drop_length] at he
    rw [List.take_length]
    have he : errA n [] l = 0 := he
    refine ⟨by omega, ?_⟩
    rintro ys ⟨hp, hs⟩
    have hw : wrongA n l = 0 := (wrong_err h0 h1 h2 he).symm
    unfold newA
    rw [if_pos hw, ← one_way (errA_ids [] l he).2 hp hs]
theorem inA_t {f t : Int} {x : Anc} : inA f t x = true ↔ f ≤ x.2.1 ∧ x.2.1 ≤ t := by simp [inA]
theorem inA_f {f t : Int} {x : Anc} : inA f t x = false ↔ ¬ (f ≤ x.2.1 ∧ x.2.1 ≤ t) := by
  cases h : inA f t x with
  | true => have := inA_t.1 h; simp; omega
  | false =>
    refine ⟨fun _ h2 => ?_, fun _ => rfl⟩
    rw [inA_t.2 h2] at h
    cases h
theorem p16 : vc16 := by
  unfold vc16
  simp only [eq_self, true_and, and_true, decide_eq_true_eq, decide_eq_false_iff_not, beq_iff_eq, beq_eq_false_iff_ne, bne_iff_ne, bne_eq_false_iff_eq, Bool.not_eq_true', Bool.not_eq_false', ne_eq, imp_true_iff, implies_true]
  rintro ⟨s, f, t, ⟨⟩⟩
  simp only [maxLen_eq, d36]
  intro hl
  refine ⟨hl, ?_⟩
  generalize allA s = xs at hl ⊢
  have second : ∀ (a : List Anc) (i j : Int), (∃ i' j' : Nat, i = (i' : Int) ∧ j = (j' : Int) ∧ DelI (inA f t) zA xs a i' j') →
      (j < (a.length : Int) → (0 ≤ j ∧ j < (a.length : Int)) ∧
        (inA f t (a.getD j.toNat zA) = true → (0 ≤ i ∧ i < (a.length : Int)) ∧ (∃ i' j' : Nat, IntKind.i64.wrap (i + 1) = (i' : Int) ∧ IntKind.i64.wrap (j + 1) = (j' : Int) ∧ DelI (inA f t) zA xs (a.set i.toNat (a.getD j.toNat zA)) i' j') ∧ xs.length - (IntKind.i64.wrap (j + 1)).toNat < xs.length - j.toNat) ∧
        (inA f t (a.getD j.toNat zA) = false → (∃ i' j' : Nat, i = (i' : Int) ∧ IntKind.i64.wrap (j + 1) = (j' : Int) ∧ DelI (inA f t) zA xs a i' j') ∧ xs.length - (IntKind.i64.wrap (j + 1)).toNat < xs.length - j.toNat)) ∧
      (¬ j < (a.length : Int) → (0 ≤ i ∧ i < (a.length : Int)) ∧ (0 ≤ i ∧ i ≤ ((a.take i.toNat ++ List.replicate (a.length - i.toNat) zA).length : Int)) ∧ (a.take i.toNat ++ List.replicate (a.length - i.toNat) zA).take i.toNat = xs.filter (inA f t)) := by
    rintro a i j ⟨i', j', rfl, rfl, hd⟩
    have hd' := hd
    obtain ⟨h1, h2, h3, h4, h5⟩ := hd'
    refine ⟨fun h => ?_, fun h => ?_⟩
    · have hw : IntKind.i64.wrap ((j' : Int) + 1) = ((j' + 1 : Nat) : Int) := wrap_succ (by omega)
      have hw2 : IntKind.i64.wrap ((i' : Int) + 1) = ((i' + 1 : Nat) : Int) := wrap_succ (by omega)
      rw [toNat_cast, toNat_cast, hw, hw2]
      have hlt : j' < xs.length := by omega
      refine ⟨⟨by omega, h⟩, fun g => ⟨⟨by omega, by omega⟩, ⟨i' + 1, j' + 1, rfl, rfl, hd.keep hlt g⟩, by rw [toNat_cast]; omega⟩, fun g => ⟨⟨i', j' + 1, rfl, rfl, hd.drop hlt g⟩, by rw [toNat_cast]; omega⟩⟩
    · have hj : j' = xs.length := by omega
      subst hj
      rw [toNat_cast, List.length_append, List.length_take, List.length_replicate]
      exact ⟨⟨by omega, by omega⟩, ⟨by omega, by omega⟩, hd.last zA⟩
  refine ⟨fun z => ∃ k : Nat, k ≤ xs.length ∧ z.1 = (k : Int) ∧ ∀ j, j < k → inA f t (xs.getD j zA) = true, fun z => xs.length - z.1.toNat, ⟨0, Nat.zero_le _, rfl, fun j hj => by omega⟩, ?_⟩
  rintro i ⟨k, hk, hi, hs⟩
  simp only at hi
  subst hi
  refine ⟨fun h => ?_, fun h => ?_⟩
  · have hlt : k < xs.length := by omega
    have hw : IntKind.i64.wrap ((k : Int) + 1) = ((k + 1 : Nat) : Int) := wrap_succ (by omega)
    rw [toNat_cast, hw]
    have next : inA f t (xs.getD k zA) = true → (∃ k' : Nat, k' ≤ xs.length ∧ ((k + 1 : Nat) : Int) = (k' : Int) ∧ ∀ j, j < k' → inA f t (xs.getD j zA) = true) ∧ xs.length - (((k + 1 : Nat) : Int)).toNat < xs.length - (k : Int).toNat := fun g =>
      ⟨⟨k + 1, hlt, rfl, fun j hj => by
        by_cases e : j = k
        · subst e; exact g
        · exact hs j (by omega)⟩, by rw [toNat_cast, toNat_cast]; omega⟩
    have out : inA f t (xs.getD k zA) = false → ∃ (Z : List Anc × Int × Int × Unit → Prop), ∃ (μ : List Anc × Int × Int × Unit → Nat), Z (xs, (k : Int), ((k + 1 : Nat) : Int), ()) ∧ ∀ (a : List Anc) (i j : Int), Z (a, i, j, ()) →
        (j < (a.length : Int) → (0 ≤ j ∧ j < (a.length : Int)) ∧
          ((a.getD j.toNat zA).2.1 < f → (True → Z (a, i, IntKind.i64.wrap (j + 1), ()) ∧ μ (a, i, IntKind.i64.wrap (j + 1), ()) < μ (a, i, j, ()))) ∧
          (¬ (a.getD j.toNat zA).2.1 < f → (¬ (a.getD j.toNat zA).2.1 > t → (0 ≤ i ∧ i < (a.length : Int)) ∧ Z (a.set i.toNat (a.getD j.toNat zA), IntKind.i64.wrap (i + 1), IntKind.i64.wrap (j + 1), ()) ∧ μ (a.set i.toNat (a.getD j.toNat zA), IntKind.i64.wrap (i + 1), IntKind.i64.wrap (j + 1), ()) < μ (a, i, j, ())) ∧
            ((a.getD j.toNat zA).2.1 > t → Z (a, i, IntKind.i64.wrap (j + 1), ()) ∧ μ (a, i, IntKind.i64.wrap (j + 1), ()) < μ (a, i, j, ())))) ∧
        (¬ j < (a.length : Int) → (0 ≤ i ∧ i < (a.length : Int)) ∧ (0 ≤ i ∧ i ≤ ((a.take i.toNat ++ List.replicate (a.length - i.toNat) zA).length : Int)) ∧ (a.take i.toNat ++ List.replicate (a.length - i.toNat) zA).take i.toNat = xs.filter (inA f t)) := fun g => by
      refine ⟨fun z => ∃ i' j' : Nat, z.2.1 = (i' : Int) ∧ z.2.2.1 = (j' : Int) ∧ DelI (inA f t) zA xs z.1 i' j', fun z => xs.length - z.2.2.1.toNat, ⟨k, k + 1, rfl, rfl, DelI.init hlt hs g⟩, fun a i j hz => ?_⟩
      obtain ⟨s1, s2⟩ := second a i j hz
      refine ⟨fun h => ?_, s2⟩
      obtain ⟨q1, q2, q3⟩ := s1 h
      exact ⟨q1, fun g1 => fun _ => q3 (inA_f.2 (by omega)), fun g1 => ⟨fun g2 => q2 (inA_t.2 (by omega)), fun g2 => q3 (inA_f.2 (by omega))⟩⟩
    refine ⟨⟨by omega, h⟩, fun g1 => ⟨fun g2 => by omega, fun _ => ?_⟩, fun g1 => ⟨fun g2 => ⟨fun g3 => by omega, fun _ => ?_⟩, fun g2 => next (inA_t.2 (by omega))⟩⟩
    · obtain ⟨Z, μ, z0, hz⟩ := out (inA_f.2 (by omega))
      refine ⟨Z, μ, z0, fun a i j hZ => ?_⟩
      obtain ⟨s1, s2⟩ := hz a i j hZ
      exact ⟨fun h => ⟨(s1 h).1, fun g => ⟨fun hh => absurd hh (by decide), (s1 h).2.1 g⟩, (s1 h).2.2⟩, s2⟩
    · obtain ⟨Z, μ, z0, hz⟩ := out (inA_f.2 (by omega))
      refine ⟨Z, μ, z0, fun a i j hZ => ?_⟩
      obtain ⟨s1, s2⟩ := hz a i j hZ
      exact ⟨fun h => ⟨(s1 h).1, fun g => ⟨fun hh => absurd hh (by decide), (s1 h).2.1 g⟩, (s1 h).2.2⟩, s2⟩
  · have hke : k = xs.length := by omega
    subst hke
    have hfw := filter_whole (f := inA f t) (d := zA) hs
    refine ⟨fun _ => hfw.symm, fun h => absurd trivial h⟩
end Go.Fr.C11
