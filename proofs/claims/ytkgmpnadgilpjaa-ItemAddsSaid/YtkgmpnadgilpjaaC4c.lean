/-
  Chapter 04: the functions' contracts, third part. Conditions: none.
-/
import Derived.Test.YtkgmpnadgilpjaaC4b
namespace Go.Fr.C4
open Go Go.Fr Go.Proofs
set_option maxRecDepth 10000
theorem take_snoc {α : Type} {l : List α} {i : Nat} (d : α) (h : i < l.length) : l.take i ++ [l.getD i d] = l.take (i + 1) := by
  rw [getD_of d h, ← List.take_succ_eq_append_getElem h]
theorem vSum (c : Code) (h : Try.f11.body = some c) : fnVC (CS [(16, cRef), (17, cAllR)]) Try.f11 c cSum := by
  cases h
  intro x hpre
  have hlen : x.1.length ≤ 100000 := hpre
  refine vc_loop Nat (fun i => [(8, .leaf (.tv t3 (i : Int))), (3, .leaf (.row 16))]) (fun _ => []) (fun i => [(16, ⟨t41, 41, x.1.take i⟩)]) (fun i => i ≤ x.1.length) (fun i => x.1.length - i) 0 (Nat.zero_le _) ?_ ?_
  · repeat' (first | exact rfl | exact trivial | apply And.intro)
  · intro i hi
    refine ⟨fun h2 => ?_, fun h2 => ?_⟩
    · have h2 := of_decide_eq_true h2
      have hl : i < x.1.length := by omega
      refine ⟨⟨by omega, h2⟩, trivial, ?_, ?_, i + 1, hl, ?_, by omega⟩
      · show ((x.1.take i).length + 1) * 64 ≤ 140737488355328
        have : (x.1.take i).length ≤ i := List.length_take_le _ _
        omega
      · show (x.1.take i).length + 1 ≤ maxLen
        have : (x.1.take i).length ≤ i := List.length_take_le _ _
        unfold maxLen
        omega
      · repeat' (first | exact rfl | exact trivial | exact wrap_succ (by omega) | exact take_snoc _ hl | apply And.intro)
    · have h2 := of_decide_eq_false h2
      refine ⟨?_, ?_⟩
      · show (x.1.take i).length ≤ maxLen
        simp only [List.length_take]
        unfold maxLen
        omega
      · show _ = _
        have : x.1.take i = x.1 := List.take_of_length_le (by omega)
        rw [this]
        rfl
theorem vBoth (c : Code) (h : Try.f8.body = some c) : fnVC (CS [(12, cAll)]) Try.f8 c cBoth := by
  cases h
  intro x _
  refine ⟨show 2 ≤ maxLen by decide, ?_⟩
  show _ = true
  rfl
end Go.Fr.C4
