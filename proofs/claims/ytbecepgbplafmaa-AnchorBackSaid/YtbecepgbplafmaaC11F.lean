/-
  Chapter 11: proofs of the conditions: the laws. Conditions: none.
-/
import Derived.Test.YtbecepgbplafmaaC11X
import Derived.Test.YtbecepgbplafmaaC11W
namespace Go.Fr.C11
open Go Go.Fr Go.Proofs

theorem beq4 (a b : Bool) : Ty.beq t4 a b = (a == b) := rfl
abbrev l2 : List Anc := [(1, 2, 1, ()), (2, 2, 0, ())]
abbrev p2 : List Chg := [((2, 2, ()), (2, 4, ()), ())]
theorem new2 : newA 5 l2 = (some (5, l2, keysA l2, ()), 0, ()) := by
  have hw : wrongA 5 l2 = 0 := by decide
  rw [new_fst hw, sort_id (wrong_zero.1 hw).2.2.2 (by decide)]
theorem shift2 : shiftA (newA 5 l2).1 p2 = (some (7, sortA (l2.map (moveA p2)), keysA (l2.map (moveA p2)), ()), 0, ()) := by
  have hw : wrongA 5 l2 = 0 := by decide
  have h := (shift_ok (p := p2) hw (by decide) (by decide) (by decide)).2.2.2
  rw [sort_id (wrong_zero.1 hw).2.2.2 (by decide)] at h
  exact h
theorem p8 : vc8 := by
  unfold vc8
  simp only [eq_self, true_and, and_true, decide_eq_true_eq, decide_eq_false_iff_not, beq_iff_eq, beq_eq_false_iff_ne, bne_iff_ne, bne_eq_false_iff_eq, Bool.not_eq_true', Bool.not_eq_false', ne_eq, imp_true_iff, implies_true]
  have a1 : (newA 5 l2).1 = some (5, l2, keysA l2, ()) := by rw [new2]
  have a2 : (newA 5 l2).2.1 = 0 := by rw [new2]
  have b1 : (shiftA (newA 5 l2).1 p2).2.1 = 0 := by rw [shift2]
  have c1 : getA (shiftA (newA 5 l2).1 p2).1 1 = ((1, 4, 1, ()), 0, ()) := by rw [shift2]; rfl
  have c2 : getA (shiftA (newA 5 l2).1 p2).1 2 = ((2, 2, 0, ()), 0, ()) := by rw [shift2]; rfl
  have e1 : (getA (shiftA (newA 5 l2).1 p2).1 1).2.1 = 0 := by rw [c1]
  have e2 : (getA (shiftA (newA 5 l2).1 p2).1 2).2.1 = 0 := by rw [c2]
  have e3 : (getA (shiftA (newA 5 l2).1 p2).1 1).1.2.1 = 4 := by rw [c1]
  have e4 : (getA (shiftA (newA 5 l2).1 p2).1 2).1.2.1 = 2 := by rw [c2]
  have d1 := new_size 5 l2
  have e5 : ((((allA (newA 5 l2).1).filter (inA 2 2)).length : Nat) : Int) = 2 := by rw [a1]; rfl
  (repeat' (first | apply And.intro | intro _))
  all_goals first
    | exact e5
    | (rw [maxLen_eq]; decide)
    | exact Nat.le_trans d1.1 (by decide)
    | exact d1.2.1
    | exact d1.2.2
    | decide
    | exact absurd a2 (by assumption)
    | exact absurd b1 (by assumption)
    | exact absurd e1 (by assumption)
    | exact absurd e2 (by assumption)
    | exact absurd e3 (by assumption)
    | exact absurd e4 (by assumption)
theorem p6 : vc6 := by
  unfold vc6
  simp only [eq_self, true_and, and_true, decide_eq_true_eq, decide_eq_false_iff_not, beq_iff_eq, beq_eq_false_iff_ne, bne_iff_ne, bne_eq_false_iff_eq, Bool.not_eq_true', Bool.not_eq_false', ne_eq, imp_true_iff, implies_true]
  rintro ⟨i, p, ⟨⟩⟩
  simp only [maxLen_eq]
  intro hp hp2
  have e1 : allA none = [] := rfl
  have e2 : lenA none = 0 := rfl
  have e3 : getA none i = ((0, 0, 0, ()), 6, ()) := rfl
  have w0 : wrongA 0 [] = 0 := by decide
  have e4 : shiftA none [] = (some (0, sortA [], keysA [], ()), 0, ()) := by
    show newA 0 [] = _
    exact new_fst w0
  have e5 : sortA [] = [] := sort_id List.Pairwise.nil List.Pairwise.nil
  rw [e1, e2, e3, e4]
  have e6 : allA (some (0, sortA [], keysA [], ())) = [] := e5
  simp only [e6]
  have pre : ([] : List Anc).length ≤ 10000 ∧ (0 : Int) ≤ 0 ∧ (0 : Int) ≤ 1099511627776 := ⟨Nat.zero_le _, Int.le_refl _, by decide⟩
  have c4 : Ty.beq t4 ((shiftA none p).2.1 == 4) (!normal p) = true := by
    rw [beq4]
    cases hn : normal p with
    | false =>
      rw [show shiftA none p = (none, 4, ()) from by rw [shiftA, if_pos hn]]
      rfl
    | true =>
      have : (shiftA none p).2.1 ≠ 4 := by
        rw [shiftA, if_neg (by rw [hn]; decide)]
        split
        · show (1 : Int) ≠ 4; decide
        · rw [new_code]
          show wrongA _ [] ≠ 4
          unfold wrongA errA
          split
          · decide
          · rw [if_neg (by decide)]; decide
      rw [show ((shiftA none p).2.1 == 4) = false from by simpa using this]
      rfl
  refine ⟨⟨pre.1, pre.2.1, pre.2.2, by decide⟩, ⟨pre.1, pre.2.1, pre.2.2, by omega⟩, fun _ => ⟨fun _ => ⟨fun _ => ⟨pre.1, fun _ => ⟨pre.1, fun _ => ⟨pre.1, fun _ => ⟨by omega, by omega, fun h => ?_⟩, fun h => ?_⟩, fun h => ?_⟩, fun h => ?_⟩, fun h => ?_⟩, fun h => ?_⟩, fun h => ?_⟩
  · rw [c4] at h; cases h
  all_goals first | (exact absurd rfl h) | (cases h) | (exact absurd trivial h)
theorem hasId_perm {l m : List Anc} (h : l.Perm m) (i : Int) : hasId i l = hasId i m := by
  cases h1 : hasId i m with
  | true =>
    obtain ⟨x, hx, e⟩ := hasId_iff.1 h1
    exact hasId_iff.2 ⟨x, h.mem_iff.2 hx, e⟩
  | false =>
    cases h2 : hasId i l with
    | false => rfl
    | true =>
      obtain ⟨x, hx, e⟩ := hasId_iff.1 h2
      rw [hasId_iff.2 ⟨x, h.mem_iff.1 hx, e⟩] at h1
      cases h1
theorem hasId_snoc {l : List Anc} {k : Nat} (h : k < l.length) (i : Int) : hasId i (l.take (k + 1)) = (hasId i (l.take k) || decide ((l.getD k zA).1 = i)) := by
  rw [take_snoc' h]
  simp [hasId]
theorem mem_take {l : List Anc} {k : Nat} (h : k < l.length) : l.getD k zA ∈ l.take (k + 1) := by
  rw [take_snoc' h]
  simp
theorem mem_more {l : List Anc} {k : Nat} {x : Anc} (h : x ∈ l.take k) : x ∈ l.take (k + 1) := by
  have : l.take k = (l.take (k + 1)).take k := by rw [List.take_take]; congr 1; omega
  rw [this] at h
  exact List.mem_of_mem_take h
theorem p3 : vc3 := by
  unfold vc3
  simp only [eq_self, true_and, and_true, decide_eq_true_eq, decide_eq_false_iff_not, beq_iff_eq, beq_eq_false_iff_ne, bne_iff_ne, bne_eq_false_iff_eq, Bool.not_eq_true', Bool.not_eq_false', ne_eq, imp_true_iff, implies_true]
  rintro ⟨n, l, ⟨f, t, w, ⟨⟩⟩, ⟨⟩⟩
  simp only [maxLen_eq, d35]
  intro hl hl2
  have code := new_code n l
  have hsz := new_size n l
  refine ⟨hl, by omega, hl, fun h => absurd code h, fun _ => ?_⟩
  by_cases hw : wrongA n l = 0
  case neg =>
    have hb := new_bad hw
    refine ⟨fun h => ?_, fun _ => fun h => absurd h hw⟩
    rw [hb, beq4, show (wrongA n l != 0) = true from by simpa using hw] at h
    cases h
  rw [hw]
  have hn := new_fst hw
  refine ⟨fun h => ?_, fun _ _ => ⟨by omega, by omega, ?_⟩⟩
  · rw [hn] at h; cases h
  have ids := (wrong_zero.1 hw).2.2.2
  have hall : allA (newA n l).1 = insA l := by rw [hn, insA_sort ids]; rfl
  rw [hall]
  have pm := (insA_perm l).1
  have hil := insA_len l
  have hget : ∀ i, (hasId i l = false → getA (newA n l).1 i = (zA, 6, ())) ∧ (∀ x ∈ l, x.1 = i → getA (newA n l).1 i = (x, 0, ())) := fun i => by
    rw [hn]
    constructor
    · intro h
      unfold getA
      rw [show byA (some (n, sortA l, keysA l, ())) = keysA l from rfl, (getL_keys i l).1.2 h]
      rfl
    · intro x hx e
      unfold getA
      rw [show byA (some (n, sortA l, keysA l, ())) = keysA l from rfl, get_of (n := n) ids hx e]
  have hhas : ∀ i, hasId i (insA l) = hasId i l := hasId_perm pm
  have hmem : ∀ x, x ∈ insA l → x ∈ l := fun x hx => pm.mem_iff.1 hx
  generalize insA l = xs at hil hhas hmem hall pm ⊢
  refine ⟨fun z => ∃ k : Nat, k ≤ xs.length ∧ z.2.2.1 = (k : Int) ∧ z.1 = (xs.take k).filter (inA f t) ∧ z.1.length ≤ k ∧ z.2.1 = hasId w (xs.take k) ∧ (z.2.1 = false → (z.2.2.2.1 = 0 ∧ z.2.2.2.2.1 = 0 ∧ z.2.2.2.2.2.1 = 0)) ∧ (z.2.1 = true → ((z.2.2.2.1, z.2.2.2.2.1, z.2.2.2.2.2.1, ()) : Anc) ∈ xs.take k ∧ z.2.2.2.1 = w), fun z => xs.length - z.2.2.1.toNat,
    ⟨0, Nat.zero_le _, rfl, rfl, Nat.zero_le _, rfl, fun _ => ⟨rfl, rfl, rfl⟩, fun h => by cases h⟩, ?_⟩
  rintro some is i g1 g2 g3 ⟨k, hk, hi, hs, hsl, his, hf, ht⟩
  simp only at hi hs hsl his hf ht
  subst hi
  refine ⟨fun h => ⟨⟨by omega, h⟩, ?_⟩, fun h => ?_⟩
  · have hlt : k < xs.length := by omega
    have hwk : IntKind.i64.wrap ((k : Int) + 1) = ((k + 1 : Nat) : Int) := wrap_succ (by omega)
    have hfo := filter_one (f := inA f t) (d := zA) hlt
    have hho := hasId_snoc hlt w
    have hme := mem_take hlt
    rw [toNat_cast, hwk]
    rw [← his] at hho
    have hmo : ∀ x, x ∈ xs.take k → x ∈ xs.take (k + 1) := fun x hx => mem_more hx
    generalize xs.getD k zA = x at hfo hho hme ⊢
    simp only [List.length_singleton]
    have out : ∀ o : List Anc, o = (xs.take (k + 1)).filter (inA f t) → o.length ≤ k + 1 →
        (x.1 = w → (∃ k' : Nat, k' ≤ xs.length ∧ ((k + 1 : Nat) : Int) = (k' : Int) ∧ o = (xs.take k').filter (inA f t) ∧ o.length ≤ k' ∧ true = hasId w (xs.take k') ∧ (true = false → (x.1 = 0 ∧ x.2.1 = 0 ∧ x.2.2.1 = 0)) ∧ (True → ((x.1, x.2.1, x.2.2.1, ()) : Anc) ∈ xs.take k' ∧ x.1 = w)) ∧ xs.length - (((k + 1 : Nat) : Int)).toNat < xs.length - ((k : Int)).toNat) ∧
        (¬ x.1 = w → (∃ k' : Nat, k' ≤ xs.length ∧ ((k + 1 : Nat) : Int) = (k' : Int) ∧ o = (xs.take k').filter (inA f t) ∧ o.length ≤ k' ∧ is = hasId w (xs.take k') ∧ (is = false → (g1 = 0 ∧ g2 = 0 ∧ g3 = 0)) ∧ (is = true → ((g1, g2, g3, ()) : Anc) ∈ xs.take k' ∧ g1 = w)) ∧ xs.length - (((k + 1 : Nat) : Int)).toNat < xs.length - ((k : Int)).toNat) := fun o ho hol => by
      refine ⟨fun e => ⟨⟨k + 1, hlt, rfl, ho, hol, ?_, fun h => (by cases h), fun _ => ⟨hme, e⟩⟩, by rw [toNat_cast, toNat_cast]; omega⟩,
        fun e => ⟨⟨k + 1, hlt, rfl, ho, hol, ?_, hf, fun h => ⟨hmo _ (ht h).1, (ht h).2⟩⟩, by rw [toNat_cast, toNat_cast]; omega⟩⟩
      · rw [hho, decide_eq_true e, Bool.or_true]
      · rw [hho, decide_eq_false e, Bool.or_false]
    have inn : inA f t x = true → some ++ [x] = (xs.take (k + 1)).filter (inA f t) := fun h => by rw [hfo, if_pos h, ← hs]
    have off : inA f t x = false → some = (xs.take (k + 1)).filter (inA f t) := fun h => by rw [hfo, if_neg (by rw [h]; decide), List.append_nil, ← hs]
    have lin : (some ++ [x]).length ≤ k + 1 := by simp; exact hsl
    refine ⟨fun h1 => ⟨fun h2 => ⟨by omega, by omega, ?_⟩, fun h2 => ?_⟩, fun h1 => ?_⟩
    · exact out _ (inn (inA_t.2 ⟨h1, h2⟩)) lin
    · exact out _ (off (inA_f.2 fun hh => h2 hh.2)) (by omega)
    · exact out _ (off (inA_f.2 fun hh => h1 hh.1)) (by omega)
  · have hke : k = xs.length := by omega
    subst hke
    rw [List.take_length] at hs his ht
    have hle : xs.length ≤ 200 := by rw [← hall]; exact hsz.1
    have hfl : (xs.filter (inA f t)).length ≤ xs.length := List.length_filter_le ..
    rw [hhas] at his
    have hg := hget w
    have hg1 : Ty.beq t4 ((getA (newA n l).1 w).2.1 == 0) is = true := by
      cases hc : is with
      | true =>
        obtain ⟨q1, q2⟩ := ht hc
        rw [hg.2 _ (hmem _ q1) q2]
        rfl
      | false =>
        rw [hg.1 (by rw [← his]; exact hc)]
        rfl
    have hg2 : Ty.beq t4 ((getA (newA n l).1 w).2.1 == 6) (!is) = true := by
      cases hc : is with
      | true =>
        obtain ⟨q1, q2⟩ := ht hc
        rw [hg.2 _ (hmem _ q1) q2]
        rfl
      | false =>
        rw [hg.1 (by rw [← his]; exact hc)]
        rfl
    have hg3 : (getA (newA n l).1 w).1 = (g1, g2, g3, ()) := by
      cases hc : is with
      | true =>
        obtain ⟨q1, q2⟩ := ht hc
        rw [hg.2 _ (hmem _ q1) q2]
      | false =>
        obtain ⟨q1, q2, q3⟩ := hf hc
        rw [hg.1 (by rw [← his]; exact hc), q1, q2, q3]
        rfl
    refine ⟨by omega, ⟨by omega, by omega⟩, fun _ => ⟨by omega, ⟨by omega, by omega⟩, fun _ => ⟨fun _ => ⟨fun _ => ⟨by simp, ⟨by decide, by simp⟩, fun h => ?_⟩, fun h => ?_⟩, fun h => ?_⟩, fun h => ?_⟩, fun h => ?_⟩
    · have h := (beqA_f _ _).1 h
      exact absurd hg3 h
    · rw [hg2] at h; cases h
    · rw [hg1] at h; cases h
    · exact absurd hs.symm h
    · exact absurd rfl h
end Go.Fr.C11
