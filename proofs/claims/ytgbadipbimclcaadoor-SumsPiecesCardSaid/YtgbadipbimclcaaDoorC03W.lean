/-
  Chapter 03: the rows and the cards of the sum and of pieces. Conditions: none.
-/
import Derived.Test.YtgbadipbimclcaaDoorC03Y
import Derived.Test.YtgbadipbimclcaaDoorC03U
import Derived.Test.YtgbadipbimclcaaDoorCards
import Derived.Test.YtgbadipbimclcaaDoorTie
namespace Go.Fr.C03
open Go Go.Fr Go.Proofs
theorem s10 : CallSpec Tryd.prog gl 10 cRefOf := fn_spec tab_ok mixed (ct_cons s15 (ct_cons s16 ct_nil)) il_nil Tryd.func10 (by kernel_rfl) (vcEq10 ▸ p10)
theorem s3 : CallSpec Tryd.prog gl 3 cSumsOf := fn_spec tab_ok mixed (ct_cons s7 (ct_cons s8 (ct_cons s9 (ct_cons s10 (ct_cons s11 ct_nil))))) il_nil Tryd.func3 (by kernel_rfl) (vcEq3 ▸ p3)
theorem s6 : CallSpec Tryd.prog gl 6 cSumsPieces := fn_spec tab_ok mixed (ct_cons s7 (ct_cons s8 (ct_cons s12 (ct_cons s9 (ct_cons s10 ct_nil))))) il_nil Tryd.func6 (by kernel_rfl) (vcEq6 ▸ p6)
end Go.Fr.C03
namespace Go.Proofs.YtgbadipbimclcaaDoor
open Go Go.Fr Go.Fr.C03 Go.ChangeShapes Go.WideShapes Go.ChangeAt Go.RowKit
set_option maxRecDepth 100000 in
theorem sumsOfLifted (os : Os) (started : os.Started) (H : Type) (enc : TypeId × Value → H) :
    ReturnsInHanded {} Tryd.checked os 3 .any (fun w args => (Rows.sumsOfSpec.pre enc Tryd.prog Tryd.f3 [] false w args ∧ laidMetH Tryd.prog laid1 w) ∧ sizedMet enc Tryd.prog Tryd.f3 (OpenSpec.ofChange Rows.sumsOfSpec) false w args)
      (Rows.sumsOfSpec.post enc Tryd.prog Tryd.f3 false true false false) :=
  law_lifted_laid (C := Tryd.checked) (tb := 4) (X := fun w => laidMetH Tryd.prog laid1 w) (fun _ _ hh h => h.of_heap hh) own started (by kernel_rfl) Tryd.func3
    (ChangeSpec.witness_shaped (enc := enc) (C := Tryd.checked) (os := os) (X := fun w _ => laidMetH Tryd.prog laid1 w) false (World.doorLaid Tryd.prog 400 os) #[.slice none 0 0] 8 rfl (World.shaped_of_RefB (by kernel_rfl) (by kernel_rfl)) (by kernel_rfl) (by kernel_rfl) (by kernel_rfl) (door_met os _))
    (by kernel_rfl) laidOut rfl rfl (fun ds h => by
      match ds, h with
      | [d1], _ => rfl) (fun W h => glob_of h) s3 (fun y h => h.1.1)
theorem sumsOfOver : Rows.SumsOfSaid :=
  OpenClaim.holds_of_wide 3 Tryd.f3 rfl rfl rfl rfl rfl rfl rfl ⟨rfl, rfl, rfl, rfl, rfl⟩ rfl rfl rfl rfl rfl (by kernel_rfl) Tryd.func3 (by kernel_rfl)
    (of_decide_eq_true (by kernel_rfl)) (by unfold Func.isWrapper; first | (rw [if_pos (by decide +kernel)]; kernel_rfl) | (rw [if_neg (by decide +kernel)]; exact ⟨rfl, rfl⟩))
    (fun os started H enc _ => sumsOfLifted os started H enc)
theorem sumsOfProved : Rows.SumsOfCardSaid :=
  Claim7.holds_tied_plain_at .later [] [.data] true (true, "d428cea1c4425237079272eef70a6b5795c3c36b651dfb131356c1157abd4f59") false
    sumsOfOver (fun _ h => by cases h) (by kernel_rfl) (fun _ h => by cases h) sumsOf_row_tie rfl ⟨rfl, rfl⟩ (by kernel_rfl) rfl
    (fun f fn hf hfn => by
      obtain rfl : f = 3 := Option.some.inj ((show Tryd.prog.funcNamed "bodkin/bodkinlaw03.SumsOf" = some 3 by kernel_rfl).symm.trans hf) |>.symm
      obtain rfl : fn = Tryd.f3 := (Option.some.inj (Tryd.func3.symm.trans hfn)).symm
      exact ⟨by kernel_rfl, fun j t ht => by
        rw [Tryd.params3] at ht
        have hm : t ∈ [22] := by simpa using Array.mem_of_getElem? ht
        have hall : ([22].all fun u => !Tryd.prog.wantsStandIn u) = true := by kernel_rfl
        exact (show Tryd.prog.wantsStandIn t = false by simpa using List.all_eq_true.1 hall t hm)⟩)
    (by kernel_rfl)
#print axioms sumsOfProved
set_option maxRecDepth 100000 in
theorem sumsPiecesLifted (os : Os) (started : os.Started) (H : Type) (enc : TypeId × Value → H) :
    ReturnsInHanded {} Tryd.checked os 6 .any (fun w args => (Rows.sumsPiecesSpec.pre enc Tryd.prog Tryd.f6 [] false w args ∧ laidMetH Tryd.prog laid1 w) ∧ sizedMet enc Tryd.prog Tryd.f6 (OpenSpec.ofChange Rows.sumsPiecesSpec) false w args)
      (Rows.sumsPiecesSpec.post enc Tryd.prog Tryd.f6 false true false false) :=
  law_lifted_laid (C := Tryd.checked) (tb := 4) (X := fun w => laidMetH Tryd.prog laid1 w) (fun _ _ hh h => h.of_heap hh) own started (by kernel_rfl) Tryd.func6
    (ChangeSpec.witness_shaped (enc := enc) (C := Tryd.checked) (os := os) (X := fun w _ => laidMetH Tryd.prog laid1 w) false (World.doorLaid Tryd.prog 400 os) #[.slice none 0 0, .slice none 0 0] 8 rfl (World.shaped_of_RefB (by kernel_rfl) (by kernel_rfl)) (by kernel_rfl) (by kernel_rfl) (by kernel_rfl) (door_met os _))
    (by kernel_rfl) laidOut rfl rfl (fun ds h => by
      match ds, h with
      | [d1, d2], _ => rfl) (fun W h => glob_of h) s6 (fun y h => ⟨h.1.1, h.2.1.1⟩)
theorem sumsPiecesOver : Rows.SumsPiecesSaid :=
  OpenClaim.holds_of_wide 6 Tryd.f6 rfl rfl rfl rfl rfl rfl rfl ⟨rfl, rfl, rfl, rfl, rfl⟩ rfl rfl rfl rfl rfl (by kernel_rfl) Tryd.func6 (by kernel_rfl)
    (of_decide_eq_true (by kernel_rfl)) (by unfold Func.isWrapper; first | (rw [if_pos (by decide +kernel)]; kernel_rfl) | (rw [if_neg (by decide +kernel)]; exact ⟨rfl, rfl⟩))
    (fun os started H enc _ => sumsPiecesLifted os started H enc)
theorem sumsPiecesProved : Rows.SumsPiecesCardSaid :=
  Claim7.holds_tied_plain_at .later [] [.data] true (true, "d428cea1c4425237079272eef70a6b5795c3c36b651dfb131356c1157abd4f59") false
    sumsPiecesOver (fun _ h => by cases h) (by kernel_rfl) (fun _ h => by cases h) sumsPieces_row_tie rfl ⟨rfl, rfl⟩ (by kernel_rfl) rfl
    (fun f fn hf hfn => by
      obtain rfl : f = 6 := Option.some.inj ((show Tryd.prog.funcNamed "bodkin/bodkinlaw03.SumsPieces" = some 6 by kernel_rfl).symm.trans hf) |>.symm
      obtain rfl : fn = Tryd.f6 := (Option.some.inj (Tryd.func6.symm.trans hfn)).symm
      exact ⟨by kernel_rfl, fun j t ht => by
        rw [Tryd.params6] at ht
        have hm : t ∈ [22, 37] := by simpa using Array.mem_of_getElem? ht
        have hall : ([22, 37].all fun u => !Tryd.prog.wantsStandIn u) = true := by kernel_rfl
        exact (show Tryd.prog.wantsStandIn t = false by simpa using List.all_eq_true.1 hall t hm)⟩)
    (by kernel_rfl)
#print axioms sumsPiecesProved
end Go.Proofs.YtgbadipbimclcaaDoor
