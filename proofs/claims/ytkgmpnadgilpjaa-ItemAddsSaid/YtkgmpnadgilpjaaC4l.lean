/-
  Chapter 04: the laws' contracts. Conditions: none.
-/
import Derived.Test.YtkgmpnadgilpjaaC4p
import Derived.Test.YtkgmpnadgilpjaaChecked
namespace Go.Fr.C4
open Go Go.Fr Go.Proofs
set_option maxRecDepth 10000

theorem mixed : Try.prog.follows .mixedOrders = true := Checked.mixed Try.checked
theorem sWithin : CallSpec Try.prog 18 cWithin := fn_spec tab_ok mixed ct_nil Try.func18 (by kernel_rfl) vWithin
theorem sRef : CallSpec Try.prog 16 cRef := fn_spec tab_ok mixed ct_nil Try.func16 (by kernel_rfl) vRef
theorem sRefSum : CallSpec Try.prog 9 cRefSum := fn_spec tab_ok mixed ct_nil Try.func9 (by kernel_rfl) vRefSum
theorem sOf : CallSpec Try.prog 10 cOf := fn_spec tab_ok mixed ct_nil Try.func10 (by kernel_rfl) vOf
theorem sAdd : CallSpec Try.prog 13 cAdd := fn_spec tab_ok mixed ct_nil Try.func13 (by kernel_rfl) vAdd
theorem sRightI : CallSpec Try.prog 15 cRightI := fn_spec tab_ok mixed ct_nil Try.func15 (by kernel_rfl) vRightI
theorem sRight : CallSpec Try.prog 7 cRight := fn_spec tab_ok mixed (ct_cons sRef (ct_cons sRightI ct_nil)) Try.func7 (by kernel_rfl) vRight
theorem sCheck : CallSpec Try.prog 14 cCheck := fn_spec tab_ok mixed (ct_cons sWithin ct_nil) Try.func14 (by kernel_rfl) vCheck
theorem sAll : CallSpec Try.prog 12 cAll := fn_spec tab_ok mixed (ct_cons sOf (ct_cons sAdd ct_nil)) Try.func12 (by kernel_rfl) vAll
theorem sAllR : CallSpec Try.prog 17 cAllR := fn_spec tab_ok mixed ct_nil Try.func17 (by kernel_rfl) vAllR
theorem sSum : CallSpec Try.prog 11 cSum := fn_spec tab_ok mixed (ct_cons sRef (ct_cons sAllR ct_nil)) Try.func11 (by kernel_rfl) vSum
theorem sBoth : CallSpec Try.prog 8 cBoth := fn_spec tab_ok mixed (ct_cons sAll ct_nil) Try.func8 (by kernel_rfl) vBoth
abbrev any (A : Ty) : A.den → Prop := fun _ => True

theorem beq_self (x : S) : Ty.beq t29 x x = true := by
  obtain ⟨a, ⟨b, c, d, _⟩, e, f, _⟩ := x
  simp [Ty.beq]
theorem nn {b : Bool} (h : (!b) = false) : b = true := by simpa using h
theorem len_ok {l : List It} (h : right l = true) : l.length ≤ maxLen := by
  have := (right_iff.1 h).1
  unfold maxLen
  omega
theorem vBrackets (c : Code) (h : Try.f5.body = some c) : fnVC (CS [(7, cRight), (8, cBoth), (12, cAll), (13, cAdd)]) Try.f5 c (lawC (.pair t22 (.pair t22 (.pair t22 .unit))) (any _)) := by
  cases h
  intro x _
  refine ⟨trivial, fun h1 => ⟨trivial, rfl⟩, fun h1 => ⟨trivial, fun h2 => ⟨trivial, rfl⟩, fun h2 => ⟨trivial, fun h3 => ⟨trivial, rfl⟩, fun h3 => ?_⟩⟩⟩
  have h1 : right x.1 = true := nn h1
  have h2 : right x.2.1 = true := nn h2
  have h3 : right x.2.2.1 = true := nn h3
  refine ⟨len_ok h1, len_ok h2, len_ok h3, trivial, trivial, trivial, trivial, fun h4 => ⟨trivial, rfl⟩, fun h4 => ?_⟩
  have h4 : Ty.beq t29 (add (add (allI x.1) (allI x.2.1)) (allI x.2.2.1)) (add (allI x.1) (add (allI x.2.1) (allI x.2.2.1))) = false := h4
  rw [all_brackets h1 h2 h3, beq_self] at h4
  cases h4
theorem vSums (c : Code) (h : Try.f3.body = some c) : fnVC (CS [(7, cRight), (8, cBoth), (12, cAll), (9, cRefSum), (10, cOf), (11, cSum)]) Try.f3 c (lawC (.pair t22 .unit) (any _)) := by
  cases h
  intro x _
  refine ⟨trivial, fun h1 => ⟨trivial, rfl⟩, fun h1 => ?_⟩
  have h1 : right x.1 = true := nn h1
  have hl := (right_iff.1 h1).1
  refine vc_loop Nat (fun i => [(11, .leaf (.tv t3 (i : Int)))]) (fun _ => []) (fun _ => []) (fun i => i ≤ x.1.length) (fun i => x.1.length - i) 0 (Nat.zero_le _) ?_ ?_
  · repeat' (first | exact rfl | exact trivial | apply And.intro)
  · intro i hi
    refine ⟨fun h2 => ?_, fun h2 => ?_⟩
    · have h2 := of_decide_eq_true h2
      have hlt : i < x.1.length := by omega
      have hx : rightI x.1[i] = true := List.all_eq_true.1 (right_iff.1 h1).2 _ (List.getElem_mem hlt)
      refine ⟨⟨by omega, h2⟩, trivial, trivial, show 1 ≤ 100000 by decide, fun h3 => ?_, fun h3 => ⟨i + 1, hlt, ?_, by omega⟩⟩
      · have h3 : (!Ty.beq t29 (of (x.1.getD i t27.dflt)) (allR [x.1.getD i t27.dflt])) = true := h3
        rw [getD_of _ hlt, ← of_ref hx, beq_self] at h3
        cases h3
      · repeat' (first | exact rfl | exact trivial | exact wrap_succ (by omega) | apply And.intro)
    · refine ⟨len_ok h1, trivial, show x.1.length ≤ 100000 by omega, fun h3 => ⟨trivial, rfl⟩, fun h3 => ?_⟩
      have h3 : Ty.beq t29 (allI x.1) (allR x.1) = false := h3
      rw [all_ref h1, beq_self] at h3
      cases h3
theorem vChecks (c : Code) (h : Try.f6.body = some c) : fnVC (CS [(8, cBoth), (14, cCheck), (15, cRightI), (16, cRef)]) Try.f6 c (lawC (.pair t27 .unit) (any _)) := by
  cases h
  intro x _
  have e1 : Ty.beq .bool (check x.1 == 1) (!rightI x.1) = true := by
    rw [check_right]
    cases rightI x.1 <;> rfl
  have e2 : Ty.beq .bool (check x.1 == 0) (rightI x.1) = true := by
    rw [check_right]
    cases rightI x.1 <;> rfl
  refine ⟨trivial, trivial, trivial, fun h1 => ⟨trivial, trivial, trivial, fun h2 => ⟨trivial, rfl⟩, fun h2 => ?_⟩, fun h1 => ?_⟩
  · exact absurd (e2.symm.trans h2) (by decide)
  · exact absurd (e1.symm.trans h1) (by decide)
end Go.Fr.C4
