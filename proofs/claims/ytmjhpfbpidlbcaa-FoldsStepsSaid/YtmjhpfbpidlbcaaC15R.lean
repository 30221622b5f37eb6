/-
  Chapter 15: proofs of the conditions: sets are made. Conditions: none.
-/
import Derived.Test.YtmjhpfbpidlbcaaC15Q
import Derived.Test.YtmjhpfbpidlbcaaFrX4
namespace Go.Fr.C15
open Go Go.Fr Go.Proofs

theorem okS_iff {n : Int} {x : Span} : okS n x = true ↔ 0 ≤ x.1 ∧ x.1 < x.2.1 ∧ x.2.1 ≤ n := by simp [okS]
theorem okS_no {n : Int} {x : Span} : okS n x = false ↔ ¬ (0 ≤ x.1 ∧ x.1 < x.2.1 ∧ x.2.1 ≤ n) := by simp [okS]
/-- What goes wrong at a place. -/
theorem err_bad {n : Int} {seen : List Span} {x : Span} {r : List Span} (h : okS n x = false) : errF n seen (x :: r) = 1 := by simp [errF, h]
theorem err_same {n : Int} {seen : List Span} {x : Span} {r : List Span} (h : okS n x = true) (hs : x ∈ seen) : errF n seen (x :: r) = 8 := by simp [errF, h, hs]
theorem err_on {n : Int} {seen : List Span} {x : Span} {r : List Span} (h : okS n x = true) (hs : x ∉ seen) : errF n seen (x :: r) = errF n (seen ++ [x]) r := by simp [errF, h, hs]
theorem newW_err {n : Int} {l : List Span} {e : Int} (h0 : ¬ n < 0) (h1 : ¬ n > 1099511627776) (h2 : ¬ (l.length : Int) > 60) (he : errF n [] l = e) (hne : e ≠ 0) : newW n l = (0, [], e, ()) := by
  unfold newW
  rw [if_neg (by omega), if_neg h2, he, if_neg hne]
theorem newF_err {n : Int} {l : List Span} {e : Int} (h0 : ¬ n < 0) (h1 : ¬ n > 1099511627776) (h2 : ¬ (l.length : Int) > 60) (he : errF n [] l = e) (hne : e ≠ 0) : newF n l = (none, e, ()) := by
  unfold newF
  rw [if_neg (by omega), if_neg h2, he, if_neg hne]
theorem take_snoc' {l : List Span} {k : Nat} (h : k < l.length) : l.take (k + 1) = l.take k ++ [l.getD k zS] := by
  rw [List.take_succ_eq_append_getElem h, getD_of zS h]
def insS (x : Span) (l : List Span) : List Span := insBy cmpS x l
theorem insS_lt {x y : Span} {r : List Span} (h : x.1 < y.1 ∨ (x.1 = y.1 ∧ x.2.1 < y.2.1)) : insS x (y :: r) = x :: y :: r := by
  unfold insS insBy
  rw [if_pos (cmpS_lt.2 h)]
theorem insS_ge {x y : Span} {r : List Span} (h : ¬ (x.1 < y.1 ∨ (x.1 = y.1 ∧ x.2.1 < y.2.1))) : insS x (y :: r) = y :: insS x r := by
  conv => lhs; unfold insS insBy
  rw [if_neg (fun hh => h (cmpS_lt.1 hh))]
  rfl
theorem insS_len (x : Span) (l : List Span) : (insS x l).length = l.length + 1 := by
  have := (insBy_perm (cf := cmpS) x l).length_eq
  simpa [insS] using this
def insAll (l : List Span) : List Span := l.foldl (fun o x => insS x o) []
theorem insAll_sort (l : List Span) : insAll l = sortS l := ins_sort swoS totS l
theorem insAll_len (l : List Span) : (insAll l).length = l.length := by
  rw [insAll_sort]
  exact (sortBy_perm l).length_eq
theorem insAll_snoc {l : List Span} {k : Nat} (h : k < l.length) : insAll (l.take (k + 1)) = insS (l.getD k zS) (insAll (l.take k)) := by
  rw [take_snoc' h]
  simp [insAll]

theorem p10 : vc10 := by
  unfold vc10
  simp only [eq_self, true_and, and_true, decide_eq_true_eq, decide_eq_false_iff_not, beq_iff_eq, beq_eq_false_iff_ne, bne_iff_ne, bne_eq_false_iff_eq, Bool.not_eq_true', Bool.not_eq_false', ne_eq, imp_true_iff, implies_true]
  rintro ⟨n, l, ⟨⟩⟩
  simp only [maxLen_eq, d33]
  intro hlm
  refine ⟨fun h0 => by simp [newW, h0], fun h0 => ⟨fun h1 => by simp [newW, h1], fun h1 => ⟨fun h2 => ?_, fun h2 => ?_⟩⟩⟩
  · unfold newW
    rw [if_neg (by omega), if_pos h2]
  refine ⟨fun z => ∃ k : Nat, k ≤ l.length ∧ z.2.1 = (k : Int) ∧ z.1 = insAll (l.take k) ∧ errF n [] l = errF n (l.take k) (l.drop k), fun z => l.length - z.2.1.toNat, ⟨0, Nat.zero_le _, rfl, rfl, rfl⟩, ?_⟩
  rintro out i ⟨k, hk, hi, ho, he⟩
  simp only at hi ho
  subst hi
  simp only [toNat_cast]
  refine ⟨fun h3 => ?_, fun h3 => ?_⟩
  · have hk' : k < l.length := by omega
    have hd := drop_cons zS hk'
    rw [hd] at he
    generalize hx : l.getD k zS = x at he ⊢
    have hwk : IntKind.i64.wrap ((k : Int) + 1) = ((k + 1 : Nat) : Int) := wrap_succ (by omega)
    refine ⟨by omega, fun h4 => ?_, fun h4 => ⟨fun h5 => ?_, fun h5 => ⟨fun h6 => ?_, fun h6 => ⟨by omega, ?_⟩⟩⟩⟩
    · exact (newW_err h0 h1 h2 (he.trans (err_bad (okS_no.2 (by omega)))) (by decide)).symm
    · exact (newW_err h0 h1 h2 (he.trans (err_bad (okS_no.2 (by omega)))) (by decide)).symm
    · exact (newW_err h0 h1 h2 (he.trans (err_bad (okS_no.2 (by omega)))) (by decide)).symm
    have hok : okS n x = true := okS_iff.2 (by omega)
    have hlt : (l.take k).length = k := by simp; omega
    rw [hlt]
    refine ⟨fun z => ∃ j : Nat, j ≤ k ∧ z.1 = (j : Int) ∧ ∀ m, m < j → (l.take k).getD m zS ≠ x, fun z => k - z.1.toNat, ⟨0, Nat.zero_le _, rfl, fun m hm => by omega⟩, ?_⟩
    rintro j0 ⟨j, hj, hj0, hne⟩
    simp only at hj0
    subst hj0
    simp only [toNat_cast]
    refine ⟨fun h7 => ⟨by omega, fun h8 => ?_, fun h8 => ?_⟩, fun h7 => ?_⟩
    · have h8 := (beqS _ _).1 h8
      have hm : x ∈ l.take k := by
        rw [h8, getD_of zS (show j < (l.take k).length by omega)]
        exact List.getElem_mem _
      exact (newW_err h0 h1 h2 (he.trans (err_same hok hm)) (by decide)).symm
    · have h8 := (beqS_f _ _).1 h8
      have hw : IntKind.i64.wrap ((j : Int) + 1) = ((j + 1 : Nat) : Int) := wrap_succ (by omega)
      rw [hw, toNat_cast]
      refine ⟨⟨j + 1, by omega, rfl, fun m hm => ?_⟩, by omega⟩
      by_cases e : m = j
      · subst e; exact fun hh => h8 hh.symm
      · exact hne m (by omega)
    have hjk : j = k := by omega
    subst hjk
    have hnot : x ∉ l.take j := by
      intro hm
      obtain ⟨m, hm1, hm2⟩ := List.getElem_of_mem hm
      exact hne m (by omega) (by rw [getD_of zS hm1]; exact hm2)
    have he2 : errF n [] l = errF n (l.take (j + 1)) (l.drop (j + 1)) := by
      rw [he, err_on hok hnot, take_snoc' hk', hx]
    have hol : out.length = j := by rw [ho, insAll_len, hlt]
    have hlast : insAll (l.take (j + 1)) = insS x out := by rw [insAll_snoc hk', hx, ho]
    have fin : ∀ o : List Span, o = insS x out → (∃ k' : Nat, k' ≤ l.length ∧ ((j + 1 : Nat) : Int) = (k' : Int) ∧ o = insAll (l.take k') ∧ errF n [] l = errF n (l.take k') (l.drop k')) ∧ l.length - (((j + 1 : Nat) : Int)).toNat < l.length - j :=
      fun o hoo => ⟨⟨j + 1, hk', rfl, by rw [hlast, hoo], he2⟩, by rw [toNat_cast]; omega⟩
    rw [hol, hwk]
    refine ⟨fun z => ∃ m : Nat, m ≤ j ∧ z.2.2.1 = (m : Int) ∧ z.1.length ≤ j + 1 ∧ (z.2.1 = true → z.1 ++ out.drop m = insS x out) ∧ (z.2.1 = false → z.1 = out.take m ∧ insS x out = out.take m ++ insS x (out.drop m)), fun z => j - z.2.2.1.toNat,
      ⟨0, Nat.zero_le _, rfl, Nat.zero_le _, fun h => (by cases h), fun _ => ⟨rfl, rfl⟩⟩, ?_⟩
    rintro nx put i ⟨m, hm, hi, hnl, ht, hf⟩
    simp only at hi hnl ht hf
    subst hi
    simp only [toNat_cast]
    refine ⟨fun h8 => ?_, fun h8 => ?_⟩
    · have hm' : m < out.length := by omega
      have hdm := drop_cons zS hm'
      have htm := take_snoc' (l := out) hm'
      generalize hy : out.getD m zS = y at hdm htm ⊢
      have hwm : IntKind.i64.wrap ((m : Int) + 1) = ((m + 1 : Nat) : Int) := wrap_succ (by omega)
      rw [hwm]
      have nlen : put = false → nx.length = m := fun h => by rw [(hf h).1]; simp; omega
      have tlen : put = true → nx.length = m + 1 := fun h => by
        have := congrArg List.length (ht h)
        rw [insS_len, List.length_append, List.length_drop] at this
        omega
      have goPut : put = false → (x.1 < y.1 ∨ (x.1 = y.1 ∧ x.2.1 < y.2.1)) → (∃ m' : Nat, m' ≤ j ∧ ((m + 1 : Nat) : Int) = (m' : Int) ∧ (nx ++ [x] ++ [y]).length ≤ j + 1 ∧ (true = true → nx ++ [x] ++ [y] ++ out.drop m' = insS x out) ∧ (true = false → nx ++ [x] ++ [y] = out.take m' ∧ insS x out = out.take m' ++ insS x (out.drop m'))) ∧ j - (((m + 1 : Nat) : Int)).toNat < j - m := by
        intro hp hl
        obtain ⟨q1, q2⟩ := hf hp
        refine ⟨⟨m + 1, by omega, rfl, by have := nlen hp; simp; omega, fun _ => ?_, fun h => by cases h⟩, by rw [toNat_cast]; omega⟩
        rw [q2, hdm, insS_lt hl, q1]
        simp
      have goOn : put = false → ¬ (x.1 < y.1 ∨ (x.1 = y.1 ∧ x.2.1 < y.2.1)) → (∃ m' : Nat, m' ≤ j ∧ ((m + 1 : Nat) : Int) = (m' : Int) ∧ (nx ++ [y]).length ≤ j + 1 ∧ (put = true → nx ++ [y] ++ out.drop m' = insS x out) ∧ (put = false → nx ++ [y] = out.take m' ∧ insS x out = out.take m' ++ insS x (out.drop m'))) ∧ j - (((m + 1 : Nat) : Int)).toNat < j - m := by
        intro hp hl
        obtain ⟨q1, q2⟩ := hf hp
        refine ⟨⟨m + 1, by omega, rfl, by have := nlen hp; simp; omega, fun h => (by rw [hp] at h; cases h), fun _ => ⟨by rw [htm, q1], ?_⟩⟩, by rw [toNat_cast]; omega⟩
        rw [q2, hdm, insS_ge hl, htm]
        simp
      have goTail : put = true → (∃ m' : Nat, m' ≤ j ∧ ((m + 1 : Nat) : Int) = (m' : Int) ∧ (nx ++ [y]).length ≤ j + 1 ∧ (put = true → nx ++ [y] ++ out.drop m' = insS x out) ∧ (put = false → nx ++ [y] = out.take m' ∧ insS x out = out.take m' ++ insS x (out.drop m'))) ∧ j - (((m + 1 : Nat) : Int)).toNat < j - m := by
        intro hp
        refine ⟨⟨m + 1, by omega, rfl, by have := tlen hp; simp; omega, fun _ => ?_, fun h => (by rw [hp] at h; cases h)⟩, by rw [toNat_cast]; omega⟩
        rw [← ht hp, hdm]
        simp
      simp only [List.length_append, List.length_singleton, List.length_cons, List.length_nil]
      simp only [List.length_append, List.length_singleton, List.length_cons, List.length_nil] at goPut goOn goTail
      refine ⟨by omega, fun h9 => ⟨fun h10 => ⟨by omega, by omega, by omega, by omega, goPut h9 (.inl h10)⟩, fun h10 => ⟨fun h11 => ⟨fun h12 => ⟨by omega, by omega, by omega, by omega, goPut h9 (.inr ⟨h11, h12⟩)⟩, fun h12 => ⟨by omega, by omega, goOn h9 (by omega)⟩⟩, fun h11 => ⟨by omega, by omega, goOn h9 (by omega)⟩⟩⟩, fun h9 => ⟨by omega, by omega, goTail h9⟩⟩
    · have hmj : m = out.length := by omega
      have hm2 : m = j := by omega
      subst hm2
      refine ⟨fun h9 => ?_, fun h9 => ?_⟩
      · obtain ⟨q1, q2⟩ := hf h9
        have e1 : nx ++ [x] = insS x out := by
          rw [q2, q1, hmj, List.drop_length]
          rfl
        refine ⟨by simp; omega, by simp; omega, ?_⟩
        exact fin _ e1
      · have e1 : nx = insS x out := by
          rw [← ht h9, hmj, List.drop_length, List.append_nil]
        exact fin _ e1
  · have hke : k = l.length := by omega
    subst hke
    rw [List.take_length] at ho
    rw [List.take_length, List.drop_length] at he
    unfold newW
    rw [if_neg (by omega), if_neg h2, he, if_pos (by rfl), ho, insAll_sort]
end Go.Fr.C15
