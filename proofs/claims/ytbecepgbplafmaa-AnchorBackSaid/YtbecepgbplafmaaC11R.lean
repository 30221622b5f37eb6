/-
  Chapter 11: proofs of the conditions: which anchors make a set; their order. Conditions: none.
-/
import Derived.Test.YtbecepgbplafmaaC11Q
namespace Go.Fr.C11
open Go Go.Fr Go.Proofs

theorem okA_iff {n : Int} {x : Anc} : okA n x = true ↔ 0 ≤ x.2.1 ∧ x.2.1 ≤ n ∧ (x.2.2.1 = 0 ∨ x.2.2.1 = 1) := by simp [okA]
theorem okA_no {n : Int} {x : Anc} : okA n x = false ↔ ¬ (0 ≤ x.2.1 ∧ x.2.1 ≤ n ∧ (x.2.2.1 = 0 ∨ x.2.2.1 = 1)) := by
  unfold okA
  exact decide_eq_false_iff_not
theorem err_bad {n : Int} {seen : List Anc} {x : Anc} {r : List Anc} (h : okA n x = false) : errA n seen (x :: r) = 1 := by simp [errA, h]
theorem err_same {n : Int} {seen : List Anc} {x : Anc} {r : List Anc} (h : okA n x = true) (hs : hasId x.1 seen = true) : errA n seen (x :: r) = 8 := by simp [errA, h, hs]
theorem err_on {n : Int} {seen : List Anc} {x : Anc} {r : List Anc} (h : okA n x = true) (hs : hasId x.1 seen = false) : errA n seen (x :: r) = errA n (seen ++ [x]) r := by simp [errA, h, hs]
theorem wrong_err {n : Int} {l : List Anc} {e : Int} (h0 : ¬ n < 0) (h1 : ¬ n > 1099511627776) (h2 : ¬ (l.length : Int) > 200) (he : errA n [] l = e) : e = wrongA n l := by
  unfold wrongA
  rw [if_neg (by omega), if_neg h2, he]
theorem new_err {n : Int} {l : List Anc} {e : Int} (he : e = wrongA n l) (hne : e ≠ 0) : (none, e, ()) = newA n l := by
  unfold newA
  rw [← he, if_neg hne]
theorem hasId_iff {i : Int} {l : List Anc} : hasId i l = true ↔ ∃ x ∈ l, x.1 = i := by simp [hasId]
theorem hasId_of {i : Int} {l : List Anc} {j : Nat} (hj : j < l.length) (h : (l.getD j zA).1 = i) : hasId i l = true :=
  hasId_iff.2 ⟨l.getD j zA, by rw [getD_of zA hj]; exact List.getElem_mem _, h⟩
theorem hasId_no {i : Int} {l : List Anc} (h : ∀ j, j < l.length → (l.getD j zA).1 ≠ i) : hasId i l = false := by
  cases hc : hasId i l with
  | false => rfl
  | true =>
    obtain ⟨x, hx, e⟩ := hasId_iff.1 hc
    obtain ⟨j, hj, he⟩ := List.getElem_of_mem hx
    exact absurd (by rw [getD_of zA hj, he]; exact e) (h j hj)
theorem wrong_n {n : Int} {l : List Anc} (h : n < 0 ∨ n > 1099511627776) : (1 : Int) = wrongA n l := by
  unfold wrongA
  rw [if_pos h]
theorem wrong_5 {n : Int} {l : List Anc} (h0 : ¬ n < 0) (h1 : ¬ n > 1099511627776) (h2 : (l.length : Int) > 200) : (5 : Int) = wrongA n l := by
  unfold wrongA
  rw [if_neg (by omega), if_pos h2]

theorem p10 : vc10 := by
  unfold vc10
  simp only [eq_self, true_and, and_true, decide_eq_true_eq, decide_eq_false_iff_not, beq_iff_eq, beq_eq_false_iff_ne, bne_iff_ne, bne_eq_false_iff_eq, Bool.not_eq_true', Bool.not_eq_false', ne_eq, imp_true_iff, implies_true]
  rintro ⟨n, l, ⟨⟩⟩
  simp only [maxLen_eq, d35]
  intro hlm
  refine ⟨fun h0 => wrong_n (.inl h0), fun h0 => ⟨fun h1 => wrong_n (.inr h1), fun h1 => ⟨fun h2 => wrong_5 h0 h1 h2, fun h2 => ?_⟩⟩⟩
  refine ⟨fun z => ∃ k : Nat, k ≤ l.length ∧ z.1 = (k : Int) ∧ errA n [] l = errA n (l.take k) (l.drop k), fun z => l.length - z.1.toNat, ⟨0, Nat.zero_le _, rfl, rfl⟩, ?_⟩
  rintro i ⟨k, hk, hi, he⟩
  simp only at hi
  subst hi
  simp only [toNat_cast]
  refine ⟨fun h3 => ?_, fun h3 => ?_⟩
  · have hk' : k < l.length := by omega
    have hd := drop_cons zA hk'
    have htk := take_snoc' hk'
    rw [hd] at he
    generalize hx : l.getD k zA = x at he htk ⊢
    have hwk : IntKind.i64.wrap ((k : Int) + 1) = ((k + 1 : Nat) : Int) := wrap_succ (by omega)
    have bad : ¬ (0 ≤ x.2.1 ∧ x.2.1 ≤ n ∧ (x.2.2.1 = 0 ∨ x.2.2.1 = 1)) → (1 : Int) = wrongA n l := fun h => wrong_err h0 h1 h2 (he.trans (err_bad (okA_no.2 h)))
    have hlt : (l.take k).length = k := by simp; omega
    have inner : (0 ≤ x.2.1 ∧ x.2.1 ≤ n ∧ (x.2.2.1 = 0 ∨ x.2.2.1 = 1)) → ∃ (Z : Int × Unit → Prop), ∃ (μ : Int × Unit → Nat), Z (0, ()) ∧ ∀ a : Int, Z (a, ()) →
        (a < (k : Int) → (0 ≤ a ∧ a < (k : Int)) ∧ (((l.take k).getD a.toNat zA).1 = x.1 → (8 : Int) = wrongA n l) ∧ (((l.take k).getD a.toNat zA).1 ≠ x.1 → Z (IntKind.i64.wrap (a + 1), ()) ∧ μ (IntKind.i64.wrap (a + 1), ()) < μ (a, ()))) ∧
        (¬ a < (k : Int) → (∃ k' : Nat, k' ≤ l.length ∧ IntKind.i64.wrap ((k : Int) + 1) = (k' : Int) ∧ errA n [] l = errA n (l.take k') (l.drop k')) ∧ l.length - (IntKind.i64.wrap ((k : Int) + 1)).toNat < l.length - k) := by
      intro hok
      have hok := okA_iff.2 hok
      refine ⟨fun z => ∃ j : Nat, j ≤ k ∧ z.1 = (j : Int) ∧ ∀ m, m < j → ((l.take k).getD m zA).1 ≠ x.1, fun z => k - z.1.toNat, ⟨0, Nat.zero_le _, rfl, fun m hm => by omega⟩, ?_⟩
      rintro j0 ⟨j, hj, hj0, hne⟩
      simp only at hj0
      subst hj0
      simp only [toNat_cast]
      refine ⟨fun h7 => ⟨by omega, fun h8 => ?_, fun h8 => ?_⟩, fun h7 => ?_⟩
      · exact wrong_err h0 h1 h2 (he.trans (err_same hok (hasId_of (by omega) h8)))
      · have hw : IntKind.i64.wrap ((j : Int) + 1) = ((j + 1 : Nat) : Int) := wrap_succ (by omega)
        rw [hw, toNat_cast]
        refine ⟨⟨j + 1, by omega, rfl, fun m hm => ?_⟩, by omega⟩
        by_cases e : m = j
        · subst e; exact h8
        · exact hne m (by omega)
      · have hjk : j = k := by omega
        subst hjk
        have hnot : hasId x.1 (l.take j) = false := hasId_no fun m hm => hne m (by omega)
        rw [hwk, toNat_cast]
        refine ⟨⟨j + 1, hk', rfl, ?_⟩, by omega⟩
        rw [he, err_on hok hnot, htk]
    rw [hlt]
    refine ⟨by omega, fun h4 => bad (by omega), fun h4 => ⟨fun h5 => bad (by omega), fun h5 => ⟨fun h6 => ⟨fun h7 => bad (by omega), fun h7 => ⟨by omega, ?_⟩⟩, fun h6 => ⟨by omega, ?_⟩⟩⟩⟩
    · exact inner (by omega)
    · exact inner (by omega)
  · have hke : k = l.length := by omega
    subst hke
    rw [List.take_length, List.drop_length] at he
    exact wrong_err h0 h1 h2 he
/-! The order of anchors. -/
theorem insA1_lt {x y : Anc} {r : List Anc} (h : x.2.1 < y.2.1 ∨ (x.2.1 = y.2.1 ∧ x.1 < y.1)) : insA1 x (y :: r) = x :: y :: r := by
  unfold insA1
  rw [if_pos (cmpA_lt.2 h)]
theorem insA1_ge {x y : Anc} {r : List Anc} (h : ¬ (x.2.1 < y.2.1 ∨ (x.2.1 = y.2.1 ∧ x.1 < y.1))) : insA1 x (y :: r) = y :: insA1 x r := by
  conv => lhs; unfold insA1
  rw [if_neg (fun hh => h (cmpA_lt.1 hh))]
theorem insA1_by (x : Anc) : (l : List Anc) → insA1 x l = insBy cmpA x l
  | [] => rfl
  | y :: r => by
    show (if cmpA x y < 0 then x :: y :: r else y :: insA1 x r) = insBy cmpA x (y :: r)
    rw [insA1_by x r]
    rfl
theorem insA_by (l : List Anc) : insA l = l.foldl (fun o x => insBy cmpA x o) [] := by
  unfold insA
  congr 1
  funext o x
  exact insA1_by x o
theorem insA1_len (x : Anc) (l : List Anc) : (insA1 x l).length = l.length + 1 := by
  rw [insA1_by]
  have := (insBy_perm (cf := cmpA) x l).length_eq
  simpa using this
theorem insA_perm (l : List Anc) : (insA l).Perm l ∧ (insA l).Pairwise (fun a b => ¬ cmpA b a < 0) := by
  rw [insA_by]
  have := ins_all swoA l [] List.Pairwise.nil
  simpa using this
theorem insA_len (l : List Anc) : (insA l).length = l.length := (insA_perm l).1.length_eq
theorem insA_snoc {l : List Anc} {k : Nat} (h : k < l.length) : insA (l.take (k + 1)) = insA1 (l.getD k zA) (insA (l.take k)) := by
  rw [take_snoc' h]
  simp [insA]
theorem p12 : vc12 := by
  unfold vc12
  simp only [eq_self, true_and, and_true, decide_eq_true_eq, decide_eq_false_iff_not, beq_iff_eq, beq_eq_false_iff_ne, bne_iff_ne, bne_eq_false_iff_eq, Bool.not_eq_true', Bool.not_eq_false', ne_eq, imp_true_iff, implies_true]
  rintro ⟨l, ⟨⟩⟩
  simp only [maxLen_eq, d35]
  intro hlm
  refine ⟨fun z => ∃ k : Nat, k ≤ l.length ∧ z.2.1 = (k : Int) ∧ z.1 = insA (l.take k), fun z => l.length - z.2.1.toNat, ⟨0, Nat.zero_le _, rfl, rfl⟩, ?_⟩
  rintro out i ⟨j, hk, hi, ho⟩
  simp only at hi ho
  subst hi
  simp only [toNat_cast]
  refine ⟨fun h3 => ?_, fun h3 => ?_⟩
  · have hk' : j < l.length := by omega
    have hlt : (l.take j).length = j := by simp; omega
    have hol : out.length = j := by rw [ho, insA_len, hlt]
    have hlast : insA (l.take (j + 1)) = insA1 (l.getD j zA) out := by rw [insA_snoc hk', ho]
    generalize l.getD j zA = x at hlast ⊢
    have hwk : IntKind.i64.wrap ((j : Int) + 1) = ((j + 1 : Nat) : Int) := wrap_succ (by omega)
    have fin : ∀ o : List Anc, o = insA1 x out → (∃ k' : Nat, k' ≤ l.length ∧ ((j + 1 : Nat) : Int) = (k' : Int) ∧ o = insA (l.take k')) ∧ l.length - (((j + 1 : Nat) : Int)).toNat < l.length - j :=
      fun o hoo => ⟨⟨j + 1, hk', rfl, by rw [hlast, hoo]⟩, by rw [toNat_cast]; omega⟩
    refine ⟨by omega, ?_⟩
    rw [hol, hwk]
    refine ⟨fun z => ∃ m : Nat, m ≤ j ∧ z.2.2.1 = (m : Int) ∧ z.1.length ≤ j + 1 ∧ (z.2.1 = true → z.1 ++ out.drop m = insA1 x out) ∧ (z.2.1 = false → z.1 = out.take m ∧ insA1 x out = out.take m ++ insA1 x (out.drop m)), fun z => j - z.2.2.1.toNat,
      ⟨0, Nat.zero_le _, rfl, Nat.zero_le _, fun h => (by cases h), fun _ => ⟨rfl, rfl⟩⟩, ?_⟩
    rintro nx put i ⟨m, hm, hi, hnl, ht, hf⟩
    simp only at hi hnl ht hf
    subst hi
    simp only [toNat_cast]
    refine ⟨fun h8 => ?_, fun h8 => ?_⟩
    · have hm' : m < out.length := by omega
      have hdm := drop_cons zA hm'
      have htm := take_snoc' (l := out) hm'
      generalize hy : out.getD m zA = y at hdm htm ⊢
      have hwm : IntKind.i64.wrap ((m : Int) + 1) = ((m + 1 : Nat) : Int) := wrap_succ (by omega)
      rw [hwm]
      have nlen : put = false → nx.length = m := fun h => by rw [(hf h).1]; simp; omega
      have tlen : put = true → nx.length = m + 1 := fun h => by
        have := congrArg List.length (ht h)
        rw [insA1_len, List.length_append, List.length_drop] at this
        omega
      have goPut : put = false → (x.2.1 < y.2.1 ∨ (x.2.1 = y.2.1 ∧ x.1 < y.1)) → (∃ m' : Nat, m' ≤ j ∧ ((m + 1 : Nat) : Int) = (m' : Int) ∧ (nx ++ [x] ++ [y]).length ≤ j + 1 ∧ (true = true → nx ++ [x] ++ [y] ++ out.drop m' = insA1 x out) ∧ (true = false → nx ++ [x] ++ [y] = out.take m' ∧ insA1 x out = out.take m' ++ insA1 x (out.drop m'))) ∧ j - (((m + 1 : Nat) : Int)).toNat < j - m := by
        intro hp hl
        obtain ⟨q1, q2⟩ := hf hp
        refine ⟨⟨m + 1, by omega, rfl, by have := nlen hp; simp; omega, fun _ => ?_, fun h => by cases h⟩, by rw [toNat_cast]; omega⟩
        rw [q2, hdm, insA1_lt hl, q1]
        simp
      have goOn : put = false → ¬ (x.2.1 < y.2.1 ∨ (x.2.1 = y.2.1 ∧ x.1 < y.1)) → (∃ m' : Nat, m' ≤ j ∧ ((m + 1 : Nat) : Int) = (m' : Int) ∧ (nx ++ [y]).length ≤ j + 1 ∧ (put = true → nx ++ [y] ++ out.drop m' = insA1 x out) ∧ (put = false → nx ++ [y] = out.take m' ∧ insA1 x out = out.take m' ++ insA1 x (out.drop m'))) ∧ j - (((m + 1 : Nat) : Int)).toNat < j - m := by
        intro hp hl
        obtain ⟨q1, q2⟩ := hf hp
        refine ⟨⟨m + 1, by omega, rfl, by have := nlen hp; simp; omega, fun h => (by rw [hp] at h; cases h), fun _ => ⟨by rw [htm, q1], ?_⟩⟩, by rw [toNat_cast]; omega⟩
        rw [q2, hdm, insA1_ge hl, htm]
        simp
      have goTail : put = true → (∃ m' : Nat, m' ≤ j ∧ ((m + 1 : Nat) : Int) = (m' : Int) ∧ (nx ++ [y]).length ≤ j + 1 ∧ (put = true → nx ++ [y] ++ out.drop m' = insA1 x out) ∧ (put = false → nx ++ [y] = out.take m' ∧ insA1 x out = out.take m' ++ insA1 x (out.drop m'))) ∧ j - (((m + 1 : Nat) : Int)).toNat < j - m := by
        intro hp
        refine ⟨⟨m + 1, by omega, rfl, by have := tlen hp; simp; omega, fun _ => ?_, fun h => (by rw [hp] at h; cases h)⟩, by rw [toNat_cast]; omega⟩
        rw [← ht hp, hdm]
        simp
      simp only [List.length_append, List.length_singleton, List.length_cons, List.length_nil]
      simp only [List.length_append, List.length_singleton, List.length_cons, List.length_nil] at goPut goOn goTail
      refine ⟨by omega, fun h9 => ⟨fun h10 => ⟨by omega, by omega, by omega, by omega, goPut h9 (.inl h10)⟩, fun h10 => ⟨fun h11 => ⟨fun h12 => ⟨by omega, by omega, by omega, by omega, goPut h9 (.inr ⟨h11.symm, h12⟩)⟩, fun h12 => ⟨by omega, by omega, goOn h9 (by omega)⟩⟩, fun h11 => ⟨by omega, by omega, goOn h9 (by omega)⟩⟩⟩, fun h9 => ⟨by omega, by omega, goTail h9⟩⟩
    · have hmj : m = out.length := by omega
      have hm2 : m = j := by omega
      subst hm2
      refine ⟨fun h9 => ?_, fun h9 => ?_⟩
      · obtain ⟨q1, q2⟩ := hf h9
        have e1 : nx ++ [x] = insA1 x out := by
          rw [q2, q1, hmj, List.drop_length]
          rfl
        refine ⟨by simp; omega, by simp; omega, ?_⟩
        exact fin _ e1
      · have e1 : nx = insA1 x out := by
          rw [← ht h9, hmj, List.drop_length, List.append_nil]
        exact fin _ e1
  · have hke : j = l.length := by omega
    subst hke
    rw [List.take_length] at ho
    exact ho
end Go.Fr.C11
