/-
  Chapter 13: proofs of the conditions: operation by operation. Conditions: none.
-/
import Derived.Test.YtepnpmaoodljkaaDoorC13F
namespace Go.Fr.C13
open Go Go.Fr Go.Proofs

theorem res_len {s : Option ISet} {w : WSet} {r : Option ISet × Int × Unit} (h : isI r.1 r.2.1 w = true) (h2 : r.1 = none ∨ (r.2.1 = 0 ∧ Made r.1 w)) (h3 : r.1 = none → w.2.1.length ≤ 60) : (allI r.1).length ≤ 10000 ∧ w.2.1.length ≤ 10000 := by
  rcases h2 with e | ⟨_, hm⟩
  · rw [e]
    exact ⟨Nat.zero_le _, Nat.le_trans (h3 e) (by decide)⟩
  · obtain ⟨_, _, _, _, e, _, _, h1, _⟩ := made_ok hm
    rw [e]
    omega
theorem shift_len {s : Option ISet} {w : WSet} (h : Made s w) (p : List Chg) : (allI (shiftI s p).1).length ≤ 10000 ∧ (shiftW w p).2.1.length ≤ 10000 := by
  obtain ⟨m1, m2⟩ := shift_is h p
  refine res_len (s := s) m1 m2 fun e => ?_
  unfold shiftW
  split
  · exact Nat.zero_le _
  · split
    · exact Nat.zero_le _
    · exact (new_len _ _).2
theorem splice_len {s : Option ISet} {w : WSet} (h : Made s w) (rm : List Int) (add : List Inl) : (allI (spliceI s rm add).1).length ≤ 10000 ∧ (spliceW w rm add).2.1.length ≤ 10000 := by
  obtain ⟨m1, m2⟩ := splice_is h rm add
  refine res_len (s := s) m1 m2 fun e => ?_
  unfold spliceW
  split
  · exact Nat.zero_le _
  · exact (new_len _ _).2
theorem p6 : vc6 := by
  unfold vc6
  simp only [eq_self, true_and, and_true, decide_eq_true_eq, decide_eq_false_iff_not, beq_iff_eq, beq_eq_false_iff_ne, bne_iff_ne, bne_eq_false_iff_eq, Bool.not_eq_true', Bool.not_eq_false', ne_eq, imp_true_iff, implies_true]
  rintro ⟨n, l, ops, ⟨⟩⟩
  simp only [maxLen_eq]
  rintro ⟨hl, hops, hps⟩
  refine ⟨hl, fun hlong hops2 => ?_⟩
  obtain ⟨s1, s2⟩ := long_short hlong
  obtain ⟨m1, m2⟩ := new_is n l
  obtain ⟨k1, k2⟩ := new_len n l
  refine ⟨⟨hl, s2⟩, ⟨hl, s2⟩, ⟨by omega, by omega⟩, fun h => ?_, fun _ hsome => ?_⟩
  · rw [m1] at h; cases h
  have hm0 := (m2.resolve_left (isnone_of hsome)).2
  refine ⟨fun z => ∃ k : Nat, k ≤ ops.length ∧ z.2.1 = (k : Int) ∧ Made z.1 z.2.2, fun z => ops.length - z.2.1.toNat, ⟨0, Nat.zero_le _, rfl, hm0⟩, ?_⟩
  clear hm0 m1 m2 k1 k2 hsome s1 s2
  rintro s i wn wl we ⟨k, hk, hi, hm⟩
  simp only at hi hm
  subst hi
  intro h3
  have hlt : k < ops.length := by omega
  have hw : IntKind.i64.wrap ((k : Int) + 1) = ((k + 1 : Nat) : Int) := wrap_succ (by omega)
  rw [toNat_cast, hw]
  simp only [toNat_cast]
  have hpo := hps _ (List.getElem_mem hlt)
  have hgo : ops.getD k (Ty.dflt t53) = ops[k] := getD_of _ hlt
  obtain ⟨o, ho⟩ : ∃ o, ops[k] = o := ⟨_, rfl⟩
  rw [ho] at hpo hgo
  rw [hgo]
  clear ho hgo
  obtain ⟨what, p, rm, add, ⟨⟩⟩ := o
  obtain ⟨hp1, hp2, hp3⟩ := hpo
  simp only at hp1 hp2 hp3 ⊢
  have hp1 : p.length ≤ 9223372036854775807 := hp1
  obtain ⟨o1, o2, o3, o4, o5, o6, o7, o8, o9⟩ := made_ok hm
  simp only at o4 o5 o6
  have hwl : wl.length ≤ 10000 := by rw [o5]; omega
  obtain ⟨a1, a2⟩ := splice_is hm rm add
  obtain ⟨b1, b2⟩ := shift_is hm p
  obtain ⟨a3, a4⟩ := splice_len hm rm add
  obtain ⟨b3, b4⟩ := shift_len hm p
  have hwm : ∀ m ∈ wl, (0 : Int) ≤ m.2.1 ∧ m.2.1 ≤ (1099511627776 : Int) := by rw [o5]; exact o9
  have al : (allI s).length ≤ 10000 := by omega
  have dec : ops.length - (k + 1) < ops.length - k := by omega
  have stay : ∃ k' : Nat, k' ≤ ops.length ∧ ((k + 1 : Nat) : Int) = (k' : Int) ∧ Made s (wn, wl, we, ()) := ⟨k + 1, hlt, rfl, hm⟩
  have goSp : (spliceI s rm add).1.isSome = true → ∃ k' : Nat, k' ≤ ops.length ∧ ((k + 1 : Nat) : Int) = (k' : Int) ∧ Made (spliceI s rm add).1 (spliceW (wn, wl, we, ()) rm add) := fun h => ⟨k + 1, hlt, rfl, (a2.resolve_left (some_of h)).2⟩
  have goSh : (shiftI s p).1.isSome = true → ∃ k' : Nat, k' ≤ ops.length ∧ ((k + 1 : Nat) : Int) = (k' : Int) ∧ Made (shiftI s p).1 (shiftW (wn, wl, we, ()) p) := fun h => ⟨k + 1, hlt, rfl, (b2.resolve_left (some_of h)).2⟩
  have t0 : ∀ b : Bool, b = true → b = false → false = true := fun b h1 h2 => by rw [h1] at h2; cases h2
  have shA : longI add = false → add.length ≤ 10000 ∧ shortL add := fun h => by
    obtain ⟨q1, q2⟩ := long_short h
    exact ⟨by omega, q2⟩
  clear hm a2 b2 hps
  refine ⟨⟨by omega, h3⟩, hp3, fun hla hr hpl => ⟨fun _ => ?_, fun _ => ?_⟩⟩
  · refine ⟨⟨o2, by omega⟩, by omega, ⟨o3, fun m hm => hwm m hm, by omega⟩, ⟨b3, b4⟩, fun h => t0 _ b1 h, fun _ => ⟨⟨al, hwl⟩, fun h => t0 _ o7 h, fun _ => ⟨fun h => ⟨goSh h, dec⟩, fun _ => ⟨stay, dec⟩⟩⟩⟩
  · obtain ⟨q1, q2⟩ := shA hla
    refine ⟨⟨o2, by omega, q1, q2⟩, ⟨o3, by omega, q1, q2⟩, ⟨a3, a4⟩, fun h => t0 _ a1 h, fun _ => ⟨⟨al, hwl⟩, fun h => t0 _ o7 h, fun _ => ⟨fun h => ⟨goSp h, dec⟩, fun _ => ⟨stay, dec⟩⟩⟩⟩
end Go.Fr.C13
