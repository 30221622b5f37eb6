/-
  Chapter 13: proofs of the conditions: the first laws. Conditions: none.
-/
import Derived.Test.YtepnpmaoodljkaaDoorC13X
import Derived.Test.YtepnpmaoodljkaaDoorC13W
namespace Go.Fr.C13
open Go Go.Fr Go.Proofs

theorem new_len (n : Int) (l : List Inl) : (allI (newI n l).1).length ≤ 60 ∧ (newW n l).2.1.length ≤ 60 := by
  by_cases h : wrongN n l = 0
  · obtain ⟨_, _, _, _, e, _, _, h1, _⟩ := made_ok (made_new h)
    exact ⟨h1, by rw [e]; exact h1⟩
  · rw [new_bad h, newW_bad h]
    exact ⟨Nat.zero_le _, Nat.zero_le _⟩
theorem long_short {l : List Inl} (h : longI l = false) : l.length ≤ 100 ∧ shortL l := by
  obtain ⟨h1, h2⟩ := long_no h
  exact ⟨h1, fun x hx => Nat.le_trans (h2 x hx) (by decide)⟩
theorem some_of {s : Option ISet} (h : s.isSome = true) : ¬ s = none := fun e => by rw [e] at h; cases h
theorem isnone_of {s : Option ISet} (h : s.isNone = false) : ¬ s = none := fun e => by rw [e] at h; cases h
theorem ok_none : okI none := ⟨Nat.zero_le _, fun x hx => (by cases hx), List.nodup_nil, Int.le_refl _, by show (0 : Int) ≤ _; decide⟩
theorem code_none (n : Int) (l : List Inl) : ((newI n l).1 = none ↔ wrongN n l ≠ 0) ∧ (newI n l).2.1 = wrongN n l ∧ (newW n l).2.2.1 = wrongN n l := by
  by_cases h : wrongN n l = 0
  · rw [new_fst h, newW_fst h, h]
    exact ⟨⟨fun h => (by cases h), fun h => absurd rfl h⟩, rfl, rfl⟩
  · rw [new_bad h, newW_bad h]
    exact ⟨⟨fun _ => h, fun _ => rfl⟩, rfl, rfl⟩
/-! Three inlays at one place. -/
abbrev i1 : Inl := (2, 3, 0, 5, ByteArray.mk #[98], ())
abbrev i2 : Inl := (1, 3, 0, 5, ByteArray.mk #[97], ())
abbrev i3 : Inl := (3, 3, 0, 4, ByteArray.mk #[99], ())
theorem wrong3 : wrongN 5 [i1, i2, i3] = 0 := by
  have h : ∀ (b : UInt8), b.toNat < 128 → b ≠ 10 → decodeL (ByteArray.mk #[b]) = [(b.toNat : Int)] := fun b hb hn => by
    have hby : byt (ByteArray.mk #[b]) 0 = b.toNat := rfl
    show (if 0 < (ByteArray.mk #[b]).size then ((Utf8.decode (ByteArray.mk #[b]) 0).1 : Int) :: decFrom (ByteArray.mk #[b]) 0 (0 + (Utf8.decode (ByteArray.mk #[b]) 0).2) else []) = _
    rw [if_pos (by show 0 < 1; decide), decode_eq, hby, if_pos hb]
    rfl
  have w : ∀ (i k : Int) (b : UInt8), 1 ≤ i → b.toNat < 128 → b ≠ 10 → wrongI 5 (i, 3, 0, k, ByteArray.mk #[b], ()) = 0 := fun i k b hi hb hn => by
    refine wi_zero.2 ⟨?_, ?_, ?_⟩
    · simp only
      omega
    · show ¬ ((decodeL (ByteArray.mk #[b])).length : Int) > 40
      rw [h b hb hn]
      simp
    · rintro (h1 | h1)
      · cases h1
      · have h2 := (nl_dec (ByteArray.mk #[b])).1 h1
        rw [h b hb hn, List.mem_singleton] at h2
        have : b.toNat = 10 := by omega
        exact hn (UInt8.toNat_inj.1 this)
  refine wrong_zero.2 ⟨by decide, by decide, fun x hx => ?_, by decide⟩
  rcases List.mem_cons.1 hx with e | hx
  · subst e; exact w _ _ _ (by decide) (by decide) (by decide)
  · rcases List.mem_cons.1 hx with e | hx
    · subst e; exact w _ _ _ (by decide) (by decide) (by decide)
    · rw [List.mem_singleton.1 hx]; exact w _ _ _ (by decide) (by decide) (by decide)
theorem new3 : newI 5 [i1, i2, i3] = (some (5, [cleanI i3, cleanI i2, cleanI i1], ()), 0, ()) := by
  rw [new_fst wrong3]
  have ids := clean_ids (wrong_zero.1 wrong3).2.2.2
  have : [cleanI i3, cleanI i2, cleanI i1] = sortI ([i1, i2, i3].map cleanI) := by
    refine one_way ids ?_ ?_
    · show [cleanI i3, cleanI i2, cleanI i1].Perm [cleanI i1, cleanI i2, cleanI i3]
      exact (List.reverse_perm [cleanI i1, cleanI i2, cleanI i3])
    · refine List.pairwise_cons.2 ⟨fun y hy => ?_, List.pairwise_cons.2 ⟨fun y hy => ?_, List.pairwise_singleton _ _⟩⟩
      · rcases List.mem_cons.1 hy with e | hy
        · subst e
          rw [cmpL_lt]
          show ¬ ((3 : Int) < 3 ∨ ((3 : Int) = 3 ∧ ((5 : Int) < 4 ∨ ((5 : Int) = 4 ∧ (1 : Int) < 3))))
          decide
        · rw [List.mem_singleton.1 hy, cmpL_lt]
          show ¬ ((3 : Int) < 3 ∨ ((3 : Int) = 3 ∧ ((5 : Int) < 4 ∨ ((5 : Int) = 4 ∧ (2 : Int) < 3))))
          decide
      · rw [List.mem_singleton.1 hy, cmpL_lt]
        show ¬ ((3 : Int) < 3 ∨ ((3 : Int) = 3 ∧ ((5 : Int) < 5 ∨ ((5 : Int) = 5 ∧ (2 : Int) < 1))))
        decide
  rw [← this]
theorem p9 : vc9 := by
  unfold vc9
  simp only [eq_self, true_and, and_true, decide_eq_true_eq, decide_eq_false_iff_not, beq_iff_eq, beq_eq_false_iff_ne, bne_iff_ne, bne_eq_false_iff_eq, Bool.not_eq_true', Bool.not_eq_false', ne_eq, imp_true_iff, implies_true]
  have sh : shortL [i1, i2, i3] := fun x hx => by
    rcases List.mem_cons.1 hx with e | hx
    · subst e; show (1 : Nat) ≤ _; decide
    · rcases List.mem_cons.1 hx with e | hx
      · subst e; show (1 : Nat) ≤ _; decide
      · rw [List.mem_singleton.1 hx]; show (1 : Nat) ≤ _; decide
  have a1 : allI (newI 5 [i1, i2, i3]).1 = [cleanI i3, cleanI i2, cleanI i1] := by rw [new3]; rfl
  have a2 : lenI (newI 5 [i1, i2, i3]).1 = 5 := by rw [new3]; rfl
  have a3 : (newI 5 [i1, i2, i3]).2.1 = 0 := by rw [new3]
  have a4 : ((allI (newI 5 [i1, i2, i3]).1).length : Int) = 3 := by rw [a1]; rfl
  have a5 : (allI (newI 5 [i1, i2, i3]).1).length ≤ 10000 := by rw [a1]; show 3 ≤ _; decide
  have b0 : ((allI (newI 5 [i1, i2, i3]).1).getD (Int.toNat 0) (Ty.dflt t42)).1 = 3 := by rw [a1]; rfl
  have b1 : ((allI (newI 5 [i1, i2, i3]).1).getD (Int.toNat 1) (Ty.dflt t42)).1 = 1 := by rw [a1]; rfl
  have b2 : ((allI (newI 5 [i1, i2, i3]).1).getD (Int.toNat 2) (Ty.dflt t42)).1 = 2 := by rw [a1]; rfl
  have c1 : ((((allI (newI 5 [i1, i2, i3]).1).filter (inI 4 9)).length : Nat) : Int) = 0 := by rw [a1]; rfl
  (repeat' (first | apply And.intro | intro _))
  all_goals first
    | exact sh
    | exact sh _ (by assumption)
    | exact a5
    | exact c1
    | (rw [maxLen_eq]; decide)
    | exact absurd a2 (by assumption)
    | exact absurd a3 (by assumption)
    | exact absurd a4 (by assumption)
    | exact absurd b0 (by assumption)
    | exact absurd b1 (by assumption)
    | exact absurd b2 (by assumption)
    | decide
    | omega
theorem p3 : vc3 := by
  unfold vc3
  simp only [eq_self, true_and, and_true, decide_eq_true_eq, decide_eq_false_iff_not, beq_iff_eq, beq_eq_false_iff_ne, bne_iff_ne, bne_eq_false_iff_eq, Bool.not_eq_true', Bool.not_eq_false', ne_eq, imp_true_iff, implies_true]
  rintro ⟨n, l, ⟨f, t, ⟨⟩⟩, ⟨⟩⟩
  simp only [maxLen_eq]
  intro hl
  refine ⟨hl, fun hlong => ?_⟩
  obtain ⟨s1, s2⟩ := long_short hlong
  obtain ⟨m1, m2⟩ := new_is n l
  obtain ⟨k1, k2⟩ := new_len n l
  refine ⟨⟨hl, s2⟩, ⟨hl, s2⟩, ⟨by omega, by omega⟩, fun h => ?_, fun _ hsome => ?_⟩
  · rw [m1] at h; cases h
  have hm := (m2.resolve_left (isnone_of hsome)).2
  obtain ⟨_, _, _, _, e, _⟩ := made_ok hm
  have f1 : ((allI (newI n l).1).filter (inI f t)).length ≤ (allI (newI n l).1).length := List.length_filter_le ..
  have f2 : ((newW n l).2.1.filter (inI f t)).length ≤ (newW n l).2.1.length := List.length_filter_le ..
  refine ⟨by omega, by omega, ⟨by omega, by omega⟩, fun h => ?_⟩
  rw [e] at h
  simp [sameL] at h
theorem p7 : vc7 := by
  unfold vc7
  simp only [eq_self, true_and, and_true, decide_eq_true_eq, decide_eq_false_iff_not, beq_iff_eq, beq_eq_false_iff_ne, bne_iff_ne, bne_eq_false_iff_eq, Bool.not_eq_true', Bool.not_eq_false', ne_eq, imp_true_iff, implies_true]
  rintro ⟨rm, ⟨⟩⟩
  simp only [maxLen_eq, beq4]
  intro hr hr2
  have w0 : wrongN 0 [] = 0 := by decide
  have e0 : sortI [] = [] := sort_id List.Pairwise.nil List.Pairwise.nil
  have n0 : newI 0 [] = (some (0, [], ()), 0, ()) := by
    rw [new_fst w0]
    show (some ((0 : Int), sortI [], ()), (0 : Int), ()) = _
    rw [e0]
  have sh : shiftI none [] = (some (0, [], ()), 0, ()) := n0
  have sp : (((spliceI none rm []).2.1 == 6) = decide ((rm.length : Int) > 0)) ∧ ((spliceI none rm []).1.isNone = decide ((rm.length : Int) > 0)) := by
    cases rm with
    | nil =>
      have : spliceI none [] [] = newI 0 [] := rfl
      rw [this, n0]
      exact ⟨rfl, rfl⟩
    | cons i r =>
      have : spliceI none (i :: r) [] = (none, 6, ()) := rfl
      rw [this]
      have : decide (((i :: r).length : Int) > 0) = true := by simp
      rw [this]
      exact ⟨rfl, rfl⟩
  have t1 : ((((spliceI none rm []).2.1 == 6) == decide ((rm.length : Int) > 0)) = false) → False := fun h => by
    rw [sp.1] at h
    simp at h
  have t2 : (((spliceI none rm []).1.isNone == decide ((rm.length : Int) > 0)) = false) → False := fun h => by
    rw [sp.2] at h
    simp at h
  have shn : shortL [] := fun x hx => by cases hx
  have c1 : (shiftI none []).2.1 = 0 := by rw [sh]
  have c2 : (shiftI none []).1.isSome = true := by rw [sh]; rfl
  refine ⟨⟨ok_none, by omega, by omega, shn⟩, ⟨ok_none, by omega⟩, fun _ => ⟨fun _ => ⟨fun _ => ⟨fun _ => ⟨fun _ => ⟨Nat.zero_le _, fun _ => ⟨Nat.zero_le _, fun h => absurd rfl h⟩, fun h => absurd rfl h⟩, fun h => absurd rfl h⟩, fun h => ?_⟩, fun h => absurd c1 h⟩, fun h => (t2 h).elim⟩, fun h => (t1 h).elim⟩
  rw [c2] at h; cases h
end Go.Fr.C13
