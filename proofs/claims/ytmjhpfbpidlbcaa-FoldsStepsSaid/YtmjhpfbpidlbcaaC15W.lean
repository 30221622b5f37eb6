/-
  Chapter 15: proofs of the conditions: what is hidden; shifts; the document's answers. Conditions: none.
-/
import Derived.Test.YtmjhpfbpidlbcaaC15U
namespace Go.Fr.C15
open Go Go.Fr Go.Proofs

theorem foldl_hide_one {x : Span} {r : List Span} : hideL (x :: r) = r.foldl hideStep [x] := rfl
theorem hide_over {pre : List Span} {u y : Span} (h : y.1 < u.2.1) : hideStep (pre ++ [u]) y = pre ++ [(u.1, if u.2.1 < y.2.1 then y.2.1 else u.2.1, ())] := by
  unfold hideStep
  rw [List.getLast?_concat]
  simp only
  rw [if_pos h, List.dropLast_concat]
theorem hide_apart {pre : List Span} {u y : Span} (h : ¬ y.1 < u.2.1) : hideStep (pre ++ [u]) y = pre ++ [u] ++ [y] := by
  unfold hideStep
  rw [List.getLast?_concat]
  simp only
  rw [if_neg h]
theorem p29 : vc29 := by
  unfold vc29
  simp only [eq_self, true_and, and_true, decide_eq_true_eq, decide_eq_false_iff_not, beq_iff_eq, beq_eq_false_iff_ne, bne_iff_ne, bne_eq_false_iff_eq, Bool.not_eq_true', Bool.not_eq_false', ne_eq, imp_true_iff, implies_true]
  rintro ⟨w, ⟨⟩⟩
  simp only [maxLen_eq, d33, List.nil_append, List.length_singleton, Nat.zero_add]
  rintro ⟨hl, hs, hv⟩
  generalize w.2.1 = L at hl hs hv ⊢
  have hs : (L.map (fun x : Span => x.1)).Pairwise (· ≤ ·) := List.pairwise_map.2 hs
  refine ⟨by omega, by omega, ?_⟩
  refine ⟨fun z => ∃ i : Nat, z.2.1 = (i : Int) ∧ z.1.length ≤ 1000 ∧ (z.1.map (fun x : Span => x.1)).Pairwise (· ≤ ·) ∧ (∀ x ∈ z.1, x.1 < x.2.1) ∧ (i < z.1.length ∨ z.1 = []) ∧ i ≤ 1000 ∧ (z.1.drop (i + 1)).foldl hideStep (z.1.take (i + 1)) = hideL L, fun z => 2 * z.1.length - z.2.1.toNat, ⟨0, rfl, hl, hs, hv, ?_, Nat.zero_le _, ?_⟩, ?_⟩
  · cases L with
    | nil => exact .inr rfl
    | cons x r => exact .inl (by simp)
  · cases L with
    | nil => rfl
    | cons x r => rfl
  rintro a j ⟨i, hj, hal, has, hav, hin, hi0, hh⟩
  simp only at hj hal has hav hin hi0 hh
  subst hj
  have hw1 : IntKind.i64.wrap ((i : Int) + 1) = ((i + 1 : Nat) : Int) := wrap_succ (by omega)
  have hw2 : IntKind.i64.wrap ((i : Int) + 2) = ((i + 2 : Nat) : Int) := by
    rw [wrap_id (by omega) (by omega)]
    omega
  rw [hw1, hw2]
  simp only [toNat_cast]
  refine ⟨fun h1 => ?_, fun h1 => ?_⟩
  · have hi1 : i + 1 < a.length := by omega
    have hd := drop_cons zS hi1
    have ht := take_one zS (show i < a.length by omega)
    have ht2 := take_one zS hi1
    have hsplit : a = a.take i ++ a.getD i zS :: a.getD (i + 1) zS :: a.drop (i + 2) := by
      rw [← drop_cons zS hi1, ← drop_cons zS (show i < a.length by omega), List.take_append_drop]
    have hu := hav _ (by rw [getD_of zS (show i < a.length by omega)]; exact List.getElem_mem _ : a.getD i zS ∈ a)
    have hy := hav _ (by rw [getD_of zS hi1]; exact List.getElem_mem _ : a.getD (i + 1) zS ∈ a)
    have hord : (a.getD i zS).1 ≤ (a.getD (i + 1) zS).1 := by
      rw [hsplit, List.map_append, List.map_cons, List.map_cons] at has
      have := (List.pairwise_append.1 has).2.1
      exact (List.pairwise_cons.1 this).1 _ (List.mem_cons_self ..)
    have hsub : ∀ m : Span, m.1 = (a.getD i zS).1 → ((a.take i ++ [m] ++ a.drop (i + 2)).map (fun x : Span => x.1)).Pairwise (· ≤ ·) := by
      intro m hm
      refine List.Pairwise.sublist ?_ has
      conv => rhs; rw [hsplit]
      rw [List.append_assoc, List.map_append, List.map_append, List.map_append, List.map_cons, List.map_cons]
      refine List.Sublist.append (List.Sublist.refl _) ?_
      simp only [List.map_singleton, List.singleton_append, List.map_nil, List.map_cons, hm]
      exact List.Sublist.cons_cons _ (List.sublist_cons_self ..)
    have hval : ∀ m : Span, m.1 < m.2.1 → ∀ x ∈ a.take i ++ [m] ++ a.drop (i + 2), x.1 < x.2.1 := by
      intro m hm x hx
      rcases List.mem_append.1 hx with hx | hx
      · rcases List.mem_append.1 hx with hx | hx
        · exact hav x (List.mem_of_mem_take hx)
        · rw [List.mem_singleton.1 hx]; exact hm
      · exact hav x (List.mem_of_mem_drop hx)
    have hlen : ∀ m : Span, (a.take i ++ [m] ++ a.drop (i + 2)).length = a.length - 1 := by
      intro m
      simp
      omega
    have htk : ∀ m : Span, (a.take i ++ [m] ++ a.drop (i + 2)).take (i + 1) = a.take i ++ [m] ∧ (a.take i ++ [m] ++ a.drop (i + 2)).drop (i + 1) = a.drop (i + 2) := by
      intro m
      have hl2 : (a.take i ++ [m]).length = i + 1 := by simp; omega
      exact ⟨List.take_left' hl2, List.drop_left' hl2⟩
    rw [hd, List.foldl_cons, ht] at hh
    clear hsplit hd
    obtain ⟨u, hu0⟩ : ∃ u : Span, a.getD i zS = u := ⟨_, rfl⟩
    obtain ⟨y, hy0⟩ : ∃ y : Span, a.getD (i + 1) zS = y := ⟨_, rfl⟩
    simp only [hu0, hy0] at hh hu hy hord hsub ht ht2 ⊢
    have ltk : (a.take i).length = i := by rw [List.length_take]; omega
    have ldr : (a.drop (i + 2)).length = a.length - (i + 2) := List.length_drop ..
    have l1 : ∀ m : Span, (a.take i ++ [m]).length = i + 1 := fun m => by rw [List.length_append, ltk]; rfl
    rw [ltk, ldr]
    simp only [l1]
    refine ⟨⟨by omega, by omega⟩, ⟨by omega, by omega⟩, fun h2 => ?_, fun h2 => ?_⟩
    · have hno : ¬ y.1 < u.2.1 := by
        simp at h2
        omega
      rw [hide_apart hno, ← ht] at hh
      refine ⟨⟨i + 1, rfl, hal, has, hav, .inl hi1, by omega, ?_⟩, by omega⟩
      rw [ht2]
      exact hh
    · have hyes : y.1 < u.2.1 := by
        simp at h2
        omega
      rw [hide_over hyes] at hh
      have fin : ∀ m : Span, m = (u.1, if u.2.1 < y.2.1 then y.2.1 else u.2.1, ()) → (∃ i' : Nat, (i : Int) = (i' : Int) ∧ (a.take i ++ [m] ++ a.drop (i + 2)).length ≤ 1000 ∧ ((a.take i ++ [m] ++ a.drop (i + 2)).map (fun x : Span => x.1)).Pairwise (· ≤ ·) ∧ (∀ x ∈ a.take i ++ [m] ++ a.drop (i + 2), x.1 < x.2.1) ∧ (i' < (a.take i ++ [m] ++ a.drop (i + 2)).length ∨ a.take i ++ [m] ++ a.drop (i + 2) = []) ∧ i' ≤ 1000 ∧ ((a.take i ++ [m] ++ a.drop (i + 2)).drop (i' + 1)).foldl hideStep ((a.take i ++ [m] ++ a.drop (i + 2)).take (i' + 1)) = hideL L) ∧ 2 * (a.take i ++ [m] ++ a.drop (i + 2)).length - i < 2 * a.length - i := by
        intro m hm
        have hl3 : (a.take i ++ [m] ++ a.drop (i + 2)).length = a.length - 1 := by
          rw [List.length_append, l1, ldr]
          omega
        refine ⟨⟨i, rfl, by omega, hsub m (by rw [hm]), hval m (by rw [hm]; simp only; split <;> omega), .inl (by omega), by omega, ?_⟩, by omega⟩
        rw [(htk m).1, (htk m).2, hm]
        exact hh
      refine ⟨by omega, by omega, fun h3 => ?_, fun h3 => ?_⟩
      · refine ⟨by omega, by omega, by omega, by omega, by omega, by omega, by omega, by omega, by omega, by omega, fin _ ?_⟩
        rw [if_pos (by omega)]
      · refine ⟨by omega, by omega, by omega, by omega, by omega, by omega, by omega, by omega, by omega, fin _ ?_⟩
        rw [if_neg (by omega)]
  · have hle : a.length ≤ i + 1 := by omega
    rw [List.drop_of_length_le hle, List.take_of_length_le hle] at hh
    exact hh
end Go.Fr.C15
