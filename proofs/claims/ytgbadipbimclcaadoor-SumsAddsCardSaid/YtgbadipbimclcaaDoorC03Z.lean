/-
  Chapter 03: the tied cards. Conditions: none.
-/
import Derived.Test.YtgbadipbimclcaaDoorC03Y
import Derived.Test.YtgbadipbimclcaaDoorCards
import Derived.Test.YtgbadipbimclcaaDoorTie
namespace Go.Proofs.YtgbadipbimclcaaDoor
open Go
theorem sumsBracketsProved : Rows.SumsBracketsCardSaid :=
  Claim7.holds_tied_plain_at .later [] [.data] true (true, "d428cea1c4425237079272eef70a6b5795c3c36b651dfb131356c1157abd4f59") false
    sumsBracketsOver (fun _ h => by cases h) (by kernel_rfl) (fun _ h => by cases h) sumsBrackets_row_tie rfl ⟨rfl, rfl⟩ (by kernel_rfl) rfl
    (fun f fn hf hfn => by
      obtain rfl : f = 5 := Option.some.inj ((show Tryd.prog.funcNamed "bodkin/bodkinlaw03.SumsBrackets" = some 5 by kernel_rfl).symm.trans hf) |>.symm
      obtain rfl : fn = Tryd.f5 := (Option.some.inj (Tryd.func5.symm.trans hfn)).symm
      exact ⟨by kernel_rfl, fun j t ht => by
        rw [Tryd.params5] at ht
        have hm : t ∈ [22, 22, 22] := by simpa using Array.mem_of_getElem? ht
        have hall : ([22, 22, 22].all fun u => !Tryd.prog.wantsStandIn u) = true := by kernel_rfl
        exact (show Tryd.prog.wantsStandIn t = false by simpa using List.all_eq_true.1 hall t hm)⟩)
    (by kernel_rfl)
#print axioms sumsBracketsProved
end Go.Proofs.YtgbadipbimclcaaDoor
