/-
  Chapter C03: contracts of functions; rows of laws. Conditions: none.
-/
import Derived.Test.YtgbadipbimclcaaDoorC03G
namespace Go.Fr.C03
open Go Go.Fr Go.Proofs
theorem s17 : CallSpec Tryd.prog gl 17 cRight := fn_spec tab_ok mixed ct_nil il_nil Tryd.func17 (by kernel_rfl) (vcEq17 ▸ p17)
theorem s14 : CallSpec Tryd.prog gl 14 cSize := fn_spec tab_ok mixed (ct_cons s17 ct_nil) (il_cons Tryd.func14 (by kernel_rfl) il_nil) Tryd.func14 (by kernel_rfl) (vcEq14 ▸ p14)
theorem s8 : CallSpec Tryd.prog gl 8 cOf := fn_spec tab_ok mixed (ct_cons s14 ct_nil) (il_cons Tryd.func13 (by kernel_rfl) il_nil) Tryd.func8 (by kernel_rfl) (vcEq8 ▸ p8)
theorem s12 : CallSpec Tryd.prog gl 12 cAdd := fn_spec tab_ok mixed ct_nil il_nil Tryd.func12 (by kernel_rfl) (vcEq12 ▸ p12)
theorem s7 : CallSpec Tryd.prog gl 7 cTwo := fn_spec tab_ok mixed (ct_cons s8 ct_nil) il_nil Tryd.func7 (by kernel_rfl) (vcEq7 ▸ p7)
theorem s18 : CallSpec Tryd.prog gl 18 cUSize := fn_spec tab_ok mixed ct_nil il_nil Tryd.func18 (by kernel_rfl) (vcEq18 ▸ p18)
theorem s19 : CallSpec Tryd.prog gl 19 cOne := fn_spec tab_ok mixed ct_nil il_nil Tryd.func19 (by kernel_rfl) (vcEq19 ▸ p19)
theorem s16 : CallSpec Tryd.prog gl 16 cEncode := fn_spec tab_ok mixed (ct_cons s18 (ct_cons s19 ct_nil)) il_nil Tryd.func16 (by kernel_rfl) (vcEq16 ▸ p16)
theorem s15 : CallSpec Tryd.prog gl 15 cLines := fn_spec tab_ok mixed ct_nil il_nil Tryd.func15 (by kernel_rfl) (vcEq15 ▸ p15)
theorem s9 : CallSpec Tryd.prog gl 9 cRef := fn_spec tab_ok mixed ct_nil il_nil Tryd.func9 (by kernel_rfl) (vcEq9 ▸ p9)
theorem s11 : CallSpec Tryd.prog gl 11 cEnd := fn_spec tab_ok mixed ct_nil il_nil Tryd.func11 (by kernel_rfl) (vcEq11 ▸ p11)
theorem s4 : CallSpec Tryd.prog gl 4 cSumsAdds := fn_spec tab_ok mixed (ct_cons s7 (ct_cons s8 (ct_cons s12 ct_nil))) il_nil Tryd.func4 (by kernel_rfl) (vcEq4 ▸ p4)
theorem s5 : CallSpec Tryd.prog gl 5 cSumsBrackets := fn_spec tab_ok mixed (ct_cons s7 (ct_cons s8 (ct_cons s12 ct_nil))) il_nil Tryd.func5 (by kernel_rfl) (vcEq5 ▸ p5)
end Go.Fr.C03
namespace Go.Proofs.YtgbadipbimclcaaDoor
open Go Go.Fr Go.Fr.C03 Go.ChangeShapes Go.WideShapes Go.ChangeAt Go.RowKit
theorem own : ownKnob Tryd.prog.godebug = none := by kernel_rfl
theorem laidOut : laidOutB Tryd.prog = true := by kernel_rfl
abbrev laid1 {H : Type} : List (String × DataW H) := [("bodkin/utf.most", Rows.laid_bodkin_utf_most)]
theorem door_met (os : Os) (args : Array Value) : laidMetH Tryd.prog laid1 ((World.doorLaid Tryd.prog 400 os).forCall (fun _ _ => 0) ⟨#[], args, []⟩).memory :=
  laidMetH_of_parts3 (fuel := 8) (laidMet_of_run' 8 (by kernel_rfl) (by kernel_rfl)) (by kernel_rfl) (by kernel_rfl)
set_option maxRecDepth 100000 in
theorem sumsBracketsLifted (os : Os) (started : os.Started) (H : Type) (enc : TypeId × Value → H) :
    ReturnsInHanded {} Tryd.checked os 5 .any (fun w args => (Rows.sumsBracketsSpec.pre enc Tryd.prog Tryd.f5 [] false w args ∧ laidMetH Tryd.prog laid1 w) ∧ sizedMet enc Tryd.prog Tryd.f5 (OpenSpec.ofChange Rows.sumsBracketsSpec) false w args)
      (Rows.sumsBracketsSpec.post enc Tryd.prog Tryd.f5 false true false false) :=
  law_lifted_laid (C := Tryd.checked) (tb := 4) (X := fun w => laidMetH Tryd.prog laid1 w) (fun _ _ hh h => h.of_heap hh) own started (by kernel_rfl) Tryd.func5
    (ChangeSpec.witness_shaped (enc := enc) (C := Tryd.checked) (os := os) (X := fun w _ => laidMetH Tryd.prog laid1 w) false (World.doorLaid Tryd.prog 400 os) #[.slice none 0 0, .slice none 0 0, .slice none 0 0] 8 rfl (World.shaped_of_RefB (by kernel_rfl) (by kernel_rfl)) (by kernel_rfl) (by kernel_rfl) (by kernel_rfl) (door_met os _))
    (by kernel_rfl) laidOut rfl rfl (fun ds h => by
      match ds, h with
      | [d1, d2, d3], _ => rfl) (fun W h => glob_of h) s5 (fun y h => ⟨h.1.1, h.2.1.1, h.2.2.1.1⟩)
theorem sumsBracketsOver : Rows.SumsBracketsSaid :=
  OpenClaim.holds_of_wide 5 Tryd.f5 rfl rfl rfl rfl rfl rfl rfl ⟨rfl, rfl, rfl, rfl, rfl⟩ rfl rfl rfl rfl rfl (by kernel_rfl) Tryd.func5 (by kernel_rfl)
    (of_decide_eq_true (by kernel_rfl)) (by unfold Func.isWrapper; first | (rw [if_pos (by decide +kernel)]; kernel_rfl) | (rw [if_neg (by decide +kernel)]; exact ⟨rfl, rfl⟩))
    (fun os started H enc _ => sumsBracketsLifted os started H enc)
#print axioms sumsBracketsOver
end Go.Proofs.YtgbadipbimclcaaDoor
