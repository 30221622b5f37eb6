/-
  Chapter 04: the contract of the law of sums of two lists. Conditions: none.
-/
import Derived.Test.YtkgmpnadgilpjaaC4l
namespace Go.Fr.C4
open Go Go.Fr Go.Proofs
def bodyOf (f : Func) : Code := match f.body with | some c => c | none => .skip
theorem bodyOf_eq {f : Func} {c : Code} (h : f.body = some c) : c = bodyOf f := by simp [bodyOf, h]
theorem vcAdds : fnVC (CS [(7, cRight), (8, cBoth), (12, cAll), (13, cAdd)]) Try.f4 (bodyOf Try.f4) (lawC (.pair t22 (.pair t22 .unit)) (any _)) =
  (∀ x : List It × List It × Unit,
  any (t22.pair (t22.pair Ty.unit)) x →
    True ∧
      ((!right x.fst) = true → True ∧ true = true) ∧
        ((!right x.fst) = false →
          True ∧
            ((!right x.snd.fst) = true → True ∧ true = true) ∧
              ((!right x.snd.fst) = false →
                (([] : List It).length + List.length x.fst) * 64 ≤ 140737488355328 ∧
                  ([] : List It).length + List.length x.fst ≤ maxLen ∧
                    (([] ++ x.fst).length + List.length x.snd.fst) * 64 ≤ 140737488355328 ∧
                      ([] ++ x.fst).length + List.length x.snd.fst ≤ maxLen ∧
                        List.length x.fst ≤ maxLen ∧
                          List.length x.snd.fst ≤ maxLen ∧
                            True ∧
                              ([] ++ x.fst ++ x.snd.fst).length ≤ maxLen ∧
                                (t31.beq (add (allI x.fst) (allI x.snd.fst)) (allI ([] ++ x.fst ++ x.snd.fst)) = true →
                                    True ∧
                                      (t31.beq (add (allI x.fst) (0, (0, 0, 0, ()), 0, 0, ())) (allI x.fst) = true →
                                          True ∧
                                            (t31.beq (add (0, (0, 0, 0, ()), 0, 0, ()) (allI x.fst)) (allI x.fst) =
                                                  true →
                                                True ∧ true = true) ∧
                                              (t31.beq (add (0, (0, 0, 0, ()), 0, 0, ()) (allI x.fst)) (allI x.fst) =
                                                  false →
                                                false = true)) ∧
                                        (t31.beq (add (allI x.fst) (0, (0, 0, 0, ()), 0, 0, ())) (allI x.fst) = false →
                                          false = true)) ∧
                                  (t31.beq (add (allI x.fst) (allI x.snd.fst)) (allI ([] ++ x.fst ++ x.snd.fst)) =
                                      false →
                                    false = true)))) := by kernel_rfl
theorem vAdds (c : Code) (h : Try.f4.body = some c) : fnVC (CS [(7, cRight), (8, cBoth), (12, cAll), (13, cAdd)]) Try.f4 c (lawC (.pair t22 (.pair t22 .unit)) (any _)) := by
  rw [bodyOf_eq h, vcAdds]
  intro x _
  refine ⟨trivial, fun h1 => ⟨trivial, rfl⟩, fun h1 => ⟨trivial, fun h2 => ⟨trivial, rfl⟩, fun h2 => ?_⟩⟩
  have h1 : right x.1 = true := nn h1
  have h2 : right x.2.1 = true := nn h2
  have l1 := (right_iff.1 h1).1
  have l2 := (right_iff.1 h2).1
  have v1 := valid_all (right_iff.1 h1).2 l1
  have e1 : Ty.beq t31 (add (allI x.1) (allI x.2.1)) (allI ([] ++ x.1 ++ x.2.1)) = true := by rw [all_adds h1 h2]; exact beq_self _
  have e2 : Ty.beq t31 (add (allI x.1) sum0) (allI x.1) = true := by rw [add_zero v1 (by decide)]; exact beq_self _
  have e3 : Ty.beq t31 (add sum0 (allI x.1)) (allI x.1) = true := by rw [zero_add v1 (by decide)]; exact beq_self _
  have hm : maxLen = 9223372036854775807 := rfl
  simp only [List.length_nil, List.nil_append, List.length_append] at *
  refine ⟨by omega, by omega, by omega, by omega, by omega, by omega, trivial, by omega, fun _ => ⟨trivial, fun _ => ⟨trivial, fun _ => ⟨trivial, trivial⟩, fun h5 => ?_⟩, fun h4 => ?_⟩, fun h3 => ?_⟩
  · exact absurd (e3.symm.trans h5) (by decide)
  · exact absurd (e2.symm.trans h4) (by decide)
  · exact absurd (e1.symm.trans h3) (by decide)
end Go.Fr.C4
