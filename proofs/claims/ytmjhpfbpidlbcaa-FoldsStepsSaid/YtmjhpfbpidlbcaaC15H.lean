/-
  Chapter 15: the law FoldsSteps. Conditions: none.
-/
import Derived.Test.YtmjhpfbpidlbcaaC15F
namespace Go.Fr.C15
open Go Go.Fr Go.Proofs

theorem errF_nodup {n : Int} : (seen l : List Span) → errF n seen l = 0 → (∀ x ∈ l, x ∉ seen) ∧ l.Nodup
  | _, [], _ => ⟨fun x hx => (by cases hx), List.nodup_nil⟩
  | seen, x :: r, h => by
    unfold errF at h
    by_cases h1 : okS n x = false
    · rw [if_pos h1] at h; cases h
    · rw [if_neg h1] at h
      by_cases h2 : x ∈ seen
      · rw [if_pos h2] at h; cases h
      · rw [if_neg h2] at h
        obtain ⟨q1, q2⟩ := errF_nodup _ _ h
        refine ⟨fun y hy => ?_, List.nodup_cons.2 ⟨fun hx => q1 x hx (List.mem_append_right _ (List.mem_singleton.2 rfl)), q2⟩⟩
        rcases List.mem_cons.1 hy with e | hy
        · subst e; exact h2
        · exact fun hs => q1 y hy (List.mem_append_left _ hs)
theorem errF_zero {n : Int} : (seen l : List Span) → (∀ x ∈ l, okS n x = true) → l.Nodup → (∀ x ∈ l, x ∉ seen) → errF n seen l = 0
  | _, [], _, _, _ => rfl
  | seen, x :: r, h1, h2, h3 => by
    have q := List.nodup_cons.1 h2
    rw [err_on (h1 x (List.mem_cons_self ..)) (h3 x (List.mem_cons_self ..))]
    refine errF_zero _ r (fun y hy => h1 y (List.mem_cons_of_mem _ hy)) q.2 fun y hy hs => ?_
    rcases List.mem_append.1 hs with h | h
    · exact h3 y (List.mem_cons_of_mem _ hy) h
    · rw [List.mem_singleton.1 h] at hy
      exact q.1 hy
theorem new_nodup (n : Int) (l : List Span) : (allF (newF n l).1).Nodup := by
  unfold newF
  split
  · exact List.nodup_nil
  · split
    · exact List.nodup_nil
    · split
      · rename_i h
        exact (sortBy_perm l).symm.nodup (errF_nodup [] l h).2
      · exact List.nodup_nil
/-- What is gone is what is not there any more. -/
theorem gone {s : Option FSet} {w : WSet} (h : Made s w) (hn : (allF s).Nodup) (x : Span) : ((removeF s x).2.2.1 = 0 ∧ (removeF s x).2.1 = (w.2.1.length : Int) - ((removeW w x).2.1.length : Int) ∧ 0 ≤ (removeF s x).2.1 ∧ (removeF s x).2.1 ≤ 60) ∨ (¬ (removeF s x).2.2.1 = 0 ∧ (removeF s x).2.1 = 0) := by
  obtain ⟨_, hok, hn1, hn0, e1, e2, _⟩ := h.ok
  unfold removeF removeW
  rw [e1]
  by_cases h1 : fitsF x (lenF s) = false
  · rw [if_pos h1, if_pos h1]
    exact .inr ⟨by simp, rfl⟩
  · rw [if_neg h1, if_neg h1, e2]
    have hfl : ((allF s).filter (offF x)).length ≤ (allF s).length := List.length_filter_le ..
    have h60 := hok.1
    have he : errF (lenF s) [] ((allF s).filter (offF x)) = 0 := errF_zero _ _ (fun y hy => hok.2.2 y (List.mem_filter.1 hy).1) (hn.filter _) (fun y _ hs => by cases hs)
    have e3 : (newF (lenF s) ((allF s).filter (offF x))).2.1 = 0 := by
      unfold newF
      rw [if_neg (by omega), if_neg (by omega), if_pos he]
    have e4 : (newW (lenF s) ((allF s).filter (offF x))).2.1.length = ((allF s).filter (offF x)).length := by
      unfold newW
      rw [if_neg (by omega), if_neg (by omega), if_pos he]
      exact sort_len _
    refine .inl ⟨e3, ?_, ?_, ?_⟩
    · show ((allF s).length : Int) - _ = _
      rw [e4]
    · show 0 ≤ ((allF s).length : Int) - (((allF s).filter (offF x)).length : Int)
      omega
    · show ((allF s).length : Int) - (((allF s).filter (offF x)).length : Int) ≤ 60
      omega
theorem nd_shift (s : Option FSet) (p : List Chg) : (allF (shiftF s p).1).Nodup := by
  unfold shiftF
  split
  · exact List.nodup_nil
  · split
    · exact List.nodup_nil
    · exact new_nodup _ _
theorem nd_remove (s : Option FSet) (x : Span) : (allF (removeF s x).1).Nodup := by
  unfold removeF
  split
  · exact List.nodup_nil
  · exact new_nodup _ _
theorem some_of {s : Option FSet} (h : s.isSome = true) : ¬ s = none := fun e => by rw [e] at h; cases h
theorem d48 : Ty.dflt t48 = ((0, zS, [], ()) : Int × Span × List Chg × Unit) := rfl
theorem p6 : vc6 := by
  unfold vc6
  simp only [eq_self, true_and, and_true, decide_eq_true_eq, decide_eq_false_iff_not, beq_iff_eq, beq_eq_false_iff_ne, bne_iff_ne, bne_eq_false_iff_eq, Bool.not_eq_true', Bool.not_eq_false', ne_eq, imp_true_iff, implies_true]
  rintro ⟨n, l, ops, ⟨⟩⟩
  simp only [maxLen_eq]
  rintro ⟨hl, hops, hps⟩
  intro h1 h2
  obtain ⟨m1, m2, m3, m4, m5⟩ := made_of n l
  refine ⟨by omega, by omega, ⟨by omega, by omega, m5⟩, fun h => ?_, fun _ hsome => ?_⟩
  · rw [m1] at h; cases h
  have hm0 : Made (newF n l).1 (newW n l) := by
    rcases m2 with h3 | ⟨_, h3⟩
    · rw [h3] at hsome; cases hsome
    · exact h3
  have hnd0 := new_nodup n l
  refine ⟨fun z => ∃ k : Nat, k ≤ ops.length ∧ z.2.1 = (k : Int) ∧ Made z.1 z.2.2 ∧ (allF z.1).Nodup, fun z => ops.length - z.2.1.toNat, ⟨0, Nat.zero_le _, rfl, hm0, hnd0⟩, ?_⟩
  clear hm0 hnd0 m1 m2 m3 m4 m5 hsome
  rintro s i wn wl we ⟨k, hk, hi, hm, hnd⟩
  simp only at hi hm hnd
  subst hi
  intro h3
  have hlt : k < ops.length := by omega
  have hw : IntKind.i64.wrap ((k : Int) + 1) = ((k + 1 : Nat) : Int) := wrap_succ (by omega)
  rw [toNat_cast, hw]
  simp only [toNat_cast]
  have hpo := hps _ (List.getElem_mem hlt)
  have hgo : ops.getD k (Ty.dflt t48) = ops[k] := getD_of _ hlt
  obtain ⟨o, ho⟩ : ∃ o, ops[k] = o := ⟨_, rfl⟩
  rw [ho] at hpo hgo
  rw [hgo]
  clear ho hgo
  obtain ⟨what, x, p, ⟨⟩⟩ := o
  have hp : p.length ≤ 9223372036854775807 := hpo
  simp only
  have hmo := hm.ok
  obtain ⟨o1, o2, o3, o4, o5, o6, o7, o8, o9, o10⟩ := hmo
  simp only at o5 o6 o7 o8 o9
  have hwl : wl.length ≤ 60 := by rw [o6]; exact o2.1
  have b1 := o2.1
  have b2 := o2.2.1
  have ra := is_add hm x
  have rr := is_remove hm x
  have rs := is_shift hm p
  have gg := gone hm hnd x
  have na := new_nodup (lenF s) (allF s ++ [x])
  have nr := nd_remove s x
  have ns := nd_shift s p
  simp only at ra rr rs gg
  obtain ⟨a1, a2, a3, a4, a5⟩ := ra
  obtain ⟨r1, r2, r3, r4, r5⟩ := rr
  obtain ⟨s1, s2, s3, s4, s5⟩ := rs
  have dec : ops.length - (k + 1) < ops.length - k := by omega
  have stay : ∃ k' : Nat, k' ≤ ops.length ∧ ((k + 1 : Nat) : Int) = (k' : Int) ∧ Made s (wn, wl, we, ()) ∧ (allF s).Nodup := ⟨k + 1, hlt, rfl, hm, hnd⟩
  have goAdd : (newF (lenF s) (allF s ++ [x])).1.isSome = true → ∃ k' : Nat, k' ≤ ops.length ∧ ((k + 1 : Nat) : Int) = (k' : Int) ∧ Made (newF (lenF s) (allF s ++ [x])).1 (newW wn (wl ++ [x])) ∧ (allF (newF (lenF s) (allF s ++ [x])).1).Nodup := fun h =>
    ⟨k + 1, hlt, rfl, (a2.resolve_left (some_of h)).2, na⟩
  have goRem : (removeF s x).1.isSome = true → ∃ k' : Nat, k' ≤ ops.length ∧ ((k + 1 : Nat) : Int) = (k' : Int) ∧ Made (removeF s x).1 (removeW (wn, wl, we, ()) x) ∧ (allF (removeF s x).1).Nodup := fun h =>
    ⟨k + 1, hlt, rfl, (r2.resolve_left (some_of h)).2, nr⟩
  have goSh : (shiftF s p).1.isSome = true → ∃ k' : Nat, k' ≤ ops.length ∧ ((k + 1 : Nat) : Int) = (k' : Int) ∧ Made (shiftF s p).1 (shiftW (wn, wl, we, ()) p) ∧ (allF (shiftF s p).1).Nodup := fun h =>
    ⟨k + 1, hlt, rfl, (s2.resolve_left (some_of h)).2, ns⟩
  have okm : ∀ m ∈ wl, okS wn m = true := fun m hm' => by
    rw [o5]
    exact o2.2.2 m (by rw [← o6]; exact hm')
  have n0 : (0 : Int) ≤ wn := by omega
  have n1 : wn ≤ (1099511627776 : Int) := by omega
  have t0 : ∀ b : Bool, b = true → b = false → false = true := fun b h1 h2 => by rw [h1] at h2; cases h2
  have gw : (removeF s x).2.2.1 = 0 → IntKind.i64.wrap ((wl.length : Int) - (((removeW (wn, wl, we, ()) x).2.1).length : Int)) = (removeF s x).2.1 := fun h => by
    rcases gg with ⟨_, g2, g3, g4⟩ | ⟨g1, _⟩
    · rw [wrap_id (by omega) (by omega)]
      exact g2.symm
    · exact absurd h g1
  have gz : ¬ (removeF s x).2.2.1 = 0 → (removeF s x).2.1 = 0 := fun h => by
    rcases gg with ⟨g1, _⟩ | ⟨_, g2⟩
    · exact absurd g1 h
    · exact g2
  clear gg hm a2 r2 s2 hpo hps
  have hsn : ∀ m ∈ allF s, okS (lenF s) m = true := o2.2.2
  (repeat' (first | apply And.intro | intro _))
  all_goals first
    | assumption
    | omega
    | exact dec
    | exact stay
    | (exact goAdd ‹_›)
    | (exact goRem ‹_›)
    | (exact goSh ‹_›)
    | exact o2
    | exact a5.1
    | exact a5.2.1
    | exact a5.2.2 _ ‹_›
    | exact r5.1
    | exact r5.2.1
    | exact r5.2.2 _ ‹_›
    | exact s5.1
    | exact s5.2.1
    | exact s5.2.2 _ ‹_›
    | exact o9.1
    | exact o9.2.1
    | exact o9.2.2 _ ‹_›
    | exact hsn _ ‹_›
    | exact okm _ ‹_›
    | (exact t0 _ a1 ‹_›)
    | (exact t0 _ r1 ‹_›)
    | (exact t0 _ s1 ‹_›)
    | (exact t0 _ o10 ‹_›)
    | (exact absurd (gw ‹_›).symm ‹_›)
    | (exact absurd (gz ‹_›) ‹_›)
    | (exact absurd ‹_› ‹_›)
    | skip
end Go.Fr.C15
