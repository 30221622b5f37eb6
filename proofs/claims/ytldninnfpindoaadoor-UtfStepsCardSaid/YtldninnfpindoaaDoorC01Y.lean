/-
  Chapter 01: contracts of functions; rows and cards of the laws. Conditions: none.
-/
import Derived.Test.YtldninnfpindoaaDoorC01G
import Derived.Test.YtldninnfpindoaaDoorCards
import Derived.Test.YtldninnfpindoaaDoorTie
namespace Go.Fr.C01
open Go Go.Fr Go.Proofs
theorem s14 : CallSpec Tryd.prog gl 14 cDecode := fn_spec tab_ok mixed ct_nil il_nil Tryd.func14 (by kernel_rfl) (vcEq14 ▸ p14)
theorem s17 : CallSpec Tryd.prog gl 17 cRunes := fn_spec tab_ok mixed ct_nil il_nil Tryd.func17 (by kernel_rfl) (vcEq17 ▸ p17)
theorem s23 : CallSpec Tryd.prog gl 23 cRight := fn_spec tab_ok mixed ct_nil il_nil Tryd.func23 (by kernel_rfl) (vcEq23 ▸ p23)
theorem s10 : CallSpec Tryd.prog gl 10 cSize := fn_spec tab_ok mixed (ct_cons s23 ct_nil) (il_cons Tryd.func10 (by kernel_rfl) il_nil) Tryd.func10 (by kernel_rfl) (vcEq10 ▸ p10)
theorem s12 : CallSpec Tryd.prog gl 12 cEncode := fn_spec tab_ok mixed (ct_cons s23 ct_nil) il_nil Tryd.func12 (by kernel_rfl) (vcEq12 ▸ p12)
theorem s15 : CallSpec Tryd.prog gl 15 cClean := fn_spec tab_ok mixed (ct_cons s14 (ct_cons s12 ct_nil)) il_nil Tryd.func15 (by kernel_rfl) (vcEq15 ▸ p15)
theorem s16 : CallSpec Tryd.prog gl 16 cGood := fn_spec tab_ok mixed (ct_cons s15 ct_nil) il_nil Tryd.func16 (by kernel_rfl) (vcEq16 ▸ p16)
theorem s9 : CallSpec Tryd.prog gl 9 cAcute := fn_spec tab_ok mixed (ct_cons s14 (ct_cons s17 (ct_cons s10 (ct_cons s16 ct_nil)))) il_nil Tryd.func9 (by kernel_rfl) (vcEq9 ▸ p9)
theorem s24 : CallSpec Tryd.prog gl 24 cUSize := fn_spec tab_ok mixed ct_nil il_nil Tryd.func24 (by kernel_rfl) (vcEq24 ▸ p24)
theorem s11 : CallSpec Tryd.prog gl 11 cRSize := fn_spec tab_ok mixed (ct_cons s24 ct_nil) il_nil Tryd.func11 (by kernel_rfl) (vcEq11 ▸ p11)
theorem s25 : CallSpec Tryd.prog gl 25 cOne := fn_spec tab_ok mixed ct_nil il_nil Tryd.func25 (by kernel_rfl) (vcEq25 ▸ p25)
theorem s13 : CallSpec Tryd.prog gl 13 cREncode := fn_spec tab_ok mixed (ct_cons s24 (ct_cons s25 ct_nil)) il_nil Tryd.func13 (by kernel_rfl) (vcEq13 ▸ p13)
theorem s3 : CallSpec Tryd.prog gl 3 cUtfEncodes := fn_spec tab_ok mixed (ct_cons s9 (ct_cons s10 (ct_cons s11 (ct_cons s12 (ct_cons s13 ct_nil))))) il_nil Tryd.func3 (by kernel_rfl) (vcEq3 ▸ p3)
theorem s4 : CallSpec Tryd.prog gl 4 cUtfBack := fn_spec tab_ok mixed (ct_cons s9 (ct_cons s12 (ct_cons s14 ct_nil))) il_nil Tryd.func4 (by kernel_rfl) (vcEq4 ▸ p4)
theorem s5 : CallSpec Tryd.prog gl 5 cUtfClean := fn_spec tab_ok mixed (ct_cons s9 (ct_cons s15 (ct_cons s16 (ct_cons s14 (ct_cons s17 ct_nil))))) il_nil Tryd.func5 (by kernel_rfl) (vcEq5 ▸ p5)
theorem s6 : CallSpec Tryd.prog gl 6 cUtfJoins := fn_spec tab_ok mixed (ct_cons s16 (ct_cons s9 (ct_cons s14 (ct_cons s17 ct_nil)))) il_nil Tryd.func6 (by kernel_rfl) (vcEq6 ▸ p6)
theorem s26 : CallSpec Tryd.prog gl 26 cNumber := fn_spec tab_ok mixed ct_nil il_nil Tryd.func26 (by kernel_rfl) (vcEq26 ▸ p26)
theorem s22 : CallSpec Tryd.prog gl 22 cRStep := fn_spec tab_ok mixed (ct_cons s26 (ct_cons s24 (ct_cons s25 ct_nil))) il_nil Tryd.func22 (by kernel_rfl) (vcEq22 ▸ p22)
theorem s18 : CallSpec Tryd.prog gl 18 cRDecode := fn_spec tab_ok mixed (ct_cons s22 ct_nil) il_nil Tryd.func18 (by kernel_rfl) (vcEq18 ▸ p18)
theorem s19 : CallSpec Tryd.prog gl 19 cCount := fn_spec tab_ok mixed ct_nil il_nil Tryd.func19 (by kernel_rfl) (vcEq19 ▸ p19)
theorem s20 : CallSpec Tryd.prog gl 20 cRGood := fn_spec tab_ok mixed (ct_cons s18 (ct_cons s13 ct_nil)) il_nil Tryd.func20 (by kernel_rfl) (vcEq20 ▸ p20)
theorem s7 : CallSpec Tryd.prog gl 7 cUtfDecodes := fn_spec tab_ok mixed (ct_cons s9 (ct_cons s18 (ct_cons s14 (ct_cons s17 (ct_cons s19 (ct_cons s16 (ct_cons s20 ct_nil))))))) il_nil Tryd.func7 (by kernel_rfl) (vcEq7 ▸ p7)
theorem s21 : CallSpec Tryd.prog gl 21 cStep := fn_spec tab_ok mixed ct_nil il_nil Tryd.func21 (by kernel_rfl) (vcEq21 ▸ p21)
theorem s8 : CallSpec Tryd.prog gl 8 cUtfSteps := fn_spec tab_ok mixed (ct_cons s9 (ct_cons s21 (ct_cons s22 ct_nil))) il_nil Tryd.func8 (by kernel_rfl) (vcEq8 ▸ p8)
end Go.Fr.C01
namespace Go.Proofs.YtldninnfpindoaaDoor
open Go Go.Fr Go.Fr.C01 Go.ChangeShapes Go.WideShapes Go.ChangeAt Go.RowKit
theorem own : ownKnob Tryd.prog.godebug = none := by kernel_rfl
theorem laidOut : laidOutB Tryd.prog = true := by kernel_rfl
abbrev laid1 {H : Type} : List (String × DataW H) := [("bodkin/utf.most", Rows.laid_bodkin_utf_most)]
theorem door_met (os : Os) (args : Array Value) : laidMetH Tryd.prog laid1 ((World.doorLaid Tryd.prog 400 os).forCall (fun _ _ => 0) ⟨#[], args, []⟩).memory :=
  laidMetH_of_parts3 (fuel := 8) (laidMet_of_run' 8 (by kernel_rfl) (by kernel_rfl)) (by kernel_rfl) (by kernel_rfl)
set_option maxRecDepth 100000 in
theorem utfEncodesLifted (os : Os) (started : os.Started) (H : Type) (enc : TypeId × Value → H) :
    ReturnsInHanded {} Tryd.checked os 3 .any (fun w args => (Rows.utfEncodesSpec.pre enc Tryd.prog Tryd.f3 [] false w args ∧ laidMetH Tryd.prog laid1 w) ∧ sizedMet enc Tryd.prog Tryd.f3 (OpenSpec.ofChange Rows.utfEncodesSpec) false w args)
      (Rows.utfEncodesSpec.post enc Tryd.prog Tryd.f3 false true false false) :=
  law_lifted_laid (C := Tryd.checked) (tb := 4) (X := fun w => laidMetH Tryd.prog laid1 w) (fun _ _ hh h => h.of_heap hh) own started (by kernel_rfl) Tryd.func3
    (ChangeSpec.witness_shaped (enc := enc) (C := Tryd.checked) (os := os) (X := fun w _ => laidMetH Tryd.prog laid1 w) false (World.doorLaid Tryd.prog 400 os) #[.slice none 0 0] 8 rfl (World.shaped_of_RefB (by kernel_rfl) (by kernel_rfl)) (by kernel_rfl) (by kernel_rfl) (by kernel_rfl) (door_met os _))
    (by kernel_rfl) laidOut rfl rfl (fun ds h => by
      match ds, h with
      | [d1], _ => rfl) (fun W h => glob_of h) s3 (fun y h => h.1.1)
theorem utfEncodesOver : Rows.UtfEncodesSaid :=
  OpenClaim.holds_of_wide 3 Tryd.f3 rfl rfl rfl rfl rfl rfl rfl ⟨rfl, rfl, rfl, rfl, rfl⟩ rfl rfl rfl rfl rfl (by kernel_rfl) Tryd.func3 (by kernel_rfl)
    (of_decide_eq_true (by kernel_rfl)) (by unfold Func.isWrapper; first | (rw [if_pos (by decide +kernel)]; kernel_rfl) | (rw [if_neg (by decide +kernel)]; exact ⟨rfl, rfl⟩))
    (fun os started H enc _ => utfEncodesLifted os started H enc)
theorem utfEncodesProved : Rows.UtfEncodesCardSaid :=
  Claim7.holds_tied_plain_at .later [] [.data] true (true, "34b72d46536e5c7a45bd4df041d1c0a8553e694aa7cc47199e6b7b5b65a1b497") false
    utfEncodesOver (fun _ h => by cases h) (by kernel_rfl) (fun _ h => by cases h) utfEncodes_row_tie rfl ⟨rfl, rfl⟩ (by kernel_rfl) rfl
    (fun f fn hf hfn => by
      obtain rfl : f = 3 := Option.some.inj ((show Tryd.prog.funcNamed "bodkin/bodkinlaw01.UtfEncodes" = some 3 by kernel_rfl).symm.trans hf) |>.symm
      obtain rfl : fn = Tryd.f3 := (Option.some.inj (Tryd.func3.symm.trans hfn)).symm
      exact ⟨by kernel_rfl, fun j t ht => by
        rw [Tryd.params3] at ht
        have hm : t ∈ [22] := by simpa using Array.mem_of_getElem? ht
        have hall : ([22].all fun u => !Tryd.prog.wantsStandIn u) = true := by kernel_rfl
        exact (show Tryd.prog.wantsStandIn t = false by simpa using List.all_eq_true.1 hall t hm)⟩)
    (by kernel_rfl)
#print axioms utfEncodesProved
set_option maxRecDepth 100000 in
theorem utfBackLifted (os : Os) (started : os.Started) (H : Type) (enc : TypeId × Value → H) :
    ReturnsInHanded {} Tryd.checked os 4 .any (fun w args => (Rows.utfBackSpec.pre enc Tryd.prog Tryd.f4 [] false w args ∧ laidMetH Tryd.prog laid1 w) ∧ sizedMet enc Tryd.prog Tryd.f4 (OpenSpec.ofChange Rows.utfBackSpec) false w args)
      (Rows.utfBackSpec.post enc Tryd.prog Tryd.f4 false true false false) :=
  law_lifted_laid (C := Tryd.checked) (tb := 4) (X := fun w => laidMetH Tryd.prog laid1 w) (fun _ _ hh h => h.of_heap hh) own started (by kernel_rfl) Tryd.func4
    (ChangeSpec.witness_shaped (enc := enc) (C := Tryd.checked) (os := os) (X := fun w _ => laidMetH Tryd.prog laid1 w) false (World.doorLaid Tryd.prog 400 os) #[.slice none 0 0] 8 rfl (World.shaped_of_RefB (by kernel_rfl) (by kernel_rfl)) (by kernel_rfl) (by kernel_rfl) (by kernel_rfl) (door_met os _))
    (by kernel_rfl) laidOut rfl rfl (fun ds h => by
      match ds, h with
      | [d1], _ => rfl) (fun W h => glob_of h) s4 (fun y h => h.1.1)
theorem utfBackOver : Rows.UtfBackSaid :=
  OpenClaim.holds_of_wide 4 Tryd.f4 rfl rfl rfl rfl rfl rfl rfl ⟨rfl, rfl, rfl, rfl, rfl⟩ rfl rfl rfl rfl rfl (by kernel_rfl) Tryd.func4 (by kernel_rfl)
    (of_decide_eq_true (by kernel_rfl)) (by unfold Func.isWrapper; first | (rw [if_pos (by decide +kernel)]; kernel_rfl) | (rw [if_neg (by decide +kernel)]; exact ⟨rfl, rfl⟩))
    (fun os started H enc _ => utfBackLifted os started H enc)
theorem utfBackProved : Rows.UtfBackCardSaid :=
  Claim7.holds_tied_plain_at .later [] [.data] true (true, "34b72d46536e5c7a45bd4df041d1c0a8553e694aa7cc47199e6b7b5b65a1b497") false
    utfBackOver (fun _ h => by cases h) (by kernel_rfl) (fun _ h => by cases h) utfBack_row_tie rfl ⟨rfl, rfl⟩ (by kernel_rfl) rfl
    (fun f fn hf hfn => by
      obtain rfl : f = 4 := Option.some.inj ((show Tryd.prog.funcNamed "bodkin/bodkinlaw01.UtfBack" = some 4 by kernel_rfl).symm.trans hf) |>.symm
      obtain rfl : fn = Tryd.f4 := (Option.some.inj (Tryd.func4.symm.trans hfn)).symm
      exact ⟨by kernel_rfl, fun j t ht => by
        rw [Tryd.params4] at ht
        have hm : t ∈ [22] := by simpa using Array.mem_of_getElem? ht
        have hall : ([22].all fun u => !Tryd.prog.wantsStandIn u) = true := by kernel_rfl
        exact (show Tryd.prog.wantsStandIn t = false by simpa using List.all_eq_true.1 hall t hm)⟩)
    (by kernel_rfl)
#print axioms utfBackProved
set_option maxRecDepth 100000 in
theorem utfCleanLifted (os : Os) (started : os.Started) (H : Type) (enc : TypeId × Value → H) :
    ReturnsInHanded {} Tryd.checked os 5 .any (fun w args => (Rows.utfCleanSpec.pre enc Tryd.prog Tryd.f5 [] false w args ∧ laidMetH Tryd.prog laid1 w) ∧ sizedMet enc Tryd.prog Tryd.f5 (OpenSpec.ofChange Rows.utfCleanSpec) false w args)
      (Rows.utfCleanSpec.post enc Tryd.prog Tryd.f5 false true false false) :=
  law_lifted_laid (C := Tryd.checked) (tb := 4) (X := fun w => laidMetH Tryd.prog laid1 w) (fun _ _ hh h => h.of_heap hh) own started (by kernel_rfl) Tryd.func5
    (ChangeSpec.witness_shaped (enc := enc) (C := Tryd.checked) (os := os) (X := fun w _ => laidMetH Tryd.prog laid1 w) false (World.doorLaid Tryd.prog 400 os) #[.string ByteArray.empty] 8 rfl (World.shaped_of_RefB (by kernel_rfl) (by kernel_rfl)) (by kernel_rfl) (by kernel_rfl) (by kernel_rfl) (door_met os _))
    (by kernel_rfl) laidOut rfl rfl (fun ds h => by
      match ds, h with
      | [d1], _ => rfl) (fun W h => glob_of h) s5 (fun y h => h.1)
theorem utfCleanOver : Rows.UtfCleanSaid :=
  OpenClaim.holds_of_wide 5 Tryd.f5 rfl rfl rfl rfl rfl rfl rfl ⟨rfl, rfl, rfl, rfl, rfl⟩ rfl rfl rfl rfl rfl (by kernel_rfl) Tryd.func5 (by kernel_rfl)
    (of_decide_eq_true (by kernel_rfl)) (by unfold Func.isWrapper; first | (rw [if_pos (by decide +kernel)]; kernel_rfl) | (rw [if_neg (by decide +kernel)]; exact ⟨rfl, rfl⟩))
    (fun os started H enc _ => utfCleanLifted os started H enc)
theorem utfCleanProved : Rows.UtfCleanCardSaid :=
  Claim7.holds_tied_plain_at .later [] [.data] true (true, "34b72d46536e5c7a45bd4df041d1c0a8553e694aa7cc47199e6b7b5b65a1b497") false
    utfCleanOver (fun _ h => by cases h) (by kernel_rfl) (fun _ h => by cases h) utfClean_row_tie rfl ⟨rfl, rfl⟩ (by kernel_rfl) rfl
    (fun f fn hf hfn => by
      obtain rfl : f = 5 := Option.some.inj ((show Tryd.prog.funcNamed "bodkin/bodkinlaw01.UtfClean" = some 5 by kernel_rfl).symm.trans hf) |>.symm
      obtain rfl : fn = Tryd.f5 := (Option.some.inj (Tryd.func5.symm.trans hfn)).symm
      exact ⟨by kernel_rfl, fun j t ht => by
        rw [Tryd.params5] at ht
        have hm : t ∈ [9] := by simpa using Array.mem_of_getElem? ht
        have hall : ([9].all fun u => !Tryd.prog.wantsStandIn u) = true := by kernel_rfl
        exact (show Tryd.prog.wantsStandIn t = false by simpa using List.all_eq_true.1 hall t hm)⟩)
    (by kernel_rfl)
#print axioms utfCleanProved
set_option maxRecDepth 100000 in
theorem utfJoinsLifted (os : Os) (started : os.Started) (H : Type) (enc : TypeId × Value → H) :
    ReturnsInHanded {} Tryd.checked os 6 .any (fun w args => (Rows.utfJoinsSpec.pre enc Tryd.prog Tryd.f6 [] false w args ∧ laidMetH Tryd.prog laid1 w) ∧ sizedMet enc Tryd.prog Tryd.f6 (OpenSpec.ofChange Rows.utfJoinsSpec) false w args)
      (Rows.utfJoinsSpec.post enc Tryd.prog Tryd.f6 false true false false) :=
  law_lifted_laid (C := Tryd.checked) (tb := 4) (X := fun w => laidMetH Tryd.prog laid1 w) (fun _ _ hh h => h.of_heap hh) own started (by kernel_rfl) Tryd.func6
    (ChangeSpec.witness_shaped (enc := enc) (C := Tryd.checked) (os := os) (X := fun w _ => laidMetH Tryd.prog laid1 w) false (World.doorLaid Tryd.prog 400 os) #[.string ByteArray.empty, .string ByteArray.empty] 8 rfl (World.shaped_of_RefB (by kernel_rfl) (by kernel_rfl)) (by kernel_rfl) (by kernel_rfl) (by kernel_rfl) (door_met os _))
    (by kernel_rfl) laidOut rfl rfl (fun ds h => by
      match ds, h with
      | [d1, d2], _ => rfl) (fun W h => glob_of h) s6 (fun y h => ⟨h.1, h.2.1⟩)
theorem utfJoinsOver : Rows.UtfJoinsSaid :=
  OpenClaim.holds_of_wide 6 Tryd.f6 rfl rfl rfl rfl rfl rfl rfl ⟨rfl, rfl, rfl, rfl, rfl⟩ rfl rfl rfl rfl rfl (by kernel_rfl) Tryd.func6 (by kernel_rfl)
    (of_decide_eq_true (by kernel_rfl)) (by unfold Func.isWrapper; first | (rw [if_pos (by decide +kernel)]; kernel_rfl) | (rw [if_neg (by decide +kernel)]; exact ⟨rfl, rfl⟩))
    (fun os started H enc _ => utfJoinsLifted os started H enc)
theorem utfJoinsProved : Rows.UtfJoinsCardSaid :=
  Claim7.holds_tied_plain_at .later [] [.data] true (true, "34b72d46536e5c7a45bd4df041d1c0a8553e694aa7cc47199e6b7b5b65a1b497") false
    utfJoinsOver (fun _ h => by cases h) (by kernel_rfl) (fun _ h => by cases h) utfJoins_row_tie rfl ⟨rfl, rfl⟩ (by kernel_rfl) rfl
    (fun f fn hf hfn => by
      obtain rfl : f = 6 := Option.some.inj ((show Tryd.prog.funcNamed "bodkin/bodkinlaw01.UtfJoins" = some 6 by kernel_rfl).symm.trans hf) |>.symm
      obtain rfl : fn = Tryd.f6 := (Option.some.inj (Tryd.func6.symm.trans hfn)).symm
      exact ⟨by kernel_rfl, fun j t ht => by
        rw [Tryd.params6] at ht
        have hm : t ∈ [9, 9] := by simpa using Array.mem_of_getElem? ht
        have hall : ([9, 9].all fun u => !Tryd.prog.wantsStandIn u) = true := by kernel_rfl
        exact (show Tryd.prog.wantsStandIn t = false by simpa using List.all_eq_true.1 hall t hm)⟩)
    (by kernel_rfl)
#print axioms utfJoinsProved
set_option maxRecDepth 100000 in
theorem utfDecodesLifted (os : Os) (started : os.Started) (H : Type) (enc : TypeId × Value → H) :
    ReturnsInHanded {} Tryd.checked os 7 .any (fun w args => (Rows.utfDecodesSpec.pre enc Tryd.prog Tryd.f7 [] false w args ∧ laidMetH Tryd.prog laid1 w) ∧ sizedMet enc Tryd.prog Tryd.f7 (OpenSpec.ofChange Rows.utfDecodesSpec) false w args)
      (Rows.utfDecodesSpec.post enc Tryd.prog Tryd.f7 false true false false) :=
  law_lifted_laid (C := Tryd.checked) (tb := 4) (X := fun w => laidMetH Tryd.prog laid1 w) (fun _ _ hh h => h.of_heap hh) own started (by kernel_rfl) Tryd.func7
    (ChangeSpec.witness_shaped (enc := enc) (C := Tryd.checked) (os := os) (X := fun w _ => laidMetH Tryd.prog laid1 w) false (World.doorLaid Tryd.prog 400 os) #[.string ByteArray.empty] 8 rfl (World.shaped_of_RefB (by kernel_rfl) (by kernel_rfl)) (by kernel_rfl) (by kernel_rfl) (by kernel_rfl) (door_met os _))
    (by kernel_rfl) laidOut rfl rfl (fun ds h => by
      match ds, h with
      | [d1], _ => rfl) (fun W h => glob_of h) s7 (fun y h => h.1)
theorem utfDecodesOver : Rows.UtfDecodesSaid :=
  OpenClaim.holds_of_wide 7 Tryd.f7 rfl rfl rfl rfl rfl rfl rfl ⟨rfl, rfl, rfl, rfl, rfl⟩ rfl rfl rfl rfl rfl (by kernel_rfl) Tryd.func7 (by kernel_rfl)
    (of_decide_eq_true (by kernel_rfl)) (by unfold Func.isWrapper; first | (rw [if_pos (by decide +kernel)]; kernel_rfl) | (rw [if_neg (by decide +kernel)]; exact ⟨rfl, rfl⟩))
    (fun os started H enc _ => utfDecodesLifted os started H enc)
theorem utfDecodesProved : Rows.UtfDecodesCardSaid :=
  Claim7.holds_tied_plain_at .later [] [.data] true (true, "34b72d46536e5c7a45bd4df041d1c0a8553e694aa7cc47199e6b7b5b65a1b497") false
    utfDecodesOver (fun _ h => by cases h) (by kernel_rfl) (fun _ h => by cases h) utfDecodes_row_tie rfl ⟨rfl, rfl⟩ (by kernel_rfl) rfl
    (fun f fn hf hfn => by
      obtain rfl : f = 7 := Option.some.inj ((show Tryd.prog.funcNamed "bodkin/bodkinlaw01.UtfDecodes" = some 7 by kernel_rfl).symm.trans hf) |>.symm
      obtain rfl : fn = Tryd.f7 := (Option.some.inj (Tryd.func7.symm.trans hfn)).symm
      exact ⟨by kernel_rfl, fun j t ht => by
        rw [Tryd.params7] at ht
        have hm : t ∈ [9] := by simpa using Array.mem_of_getElem? ht
        have hall : ([9].all fun u => !Tryd.prog.wantsStandIn u) = true := by kernel_rfl
        exact (show Tryd.prog.wantsStandIn t = false by simpa using List.all_eq_true.1 hall t hm)⟩)
    (by kernel_rfl)
#print axioms utfDecodesProved
set_option maxRecDepth 100000 in
theorem utfStepsLifted (os : Os) (started : os.Started) (H : Type) (enc : TypeId × Value → H) :
    ReturnsInHanded {} Tryd.checked os 8 .any (fun w args => (Rows.utfStepsSpec.pre enc Tryd.prog Tryd.f8 [] false w args ∧ laidMetH Tryd.prog laid1 w) ∧ sizedMet enc Tryd.prog Tryd.f8 (OpenSpec.ofChange Rows.utfStepsSpec) false w args)
      (Rows.utfStepsSpec.post enc Tryd.prog Tryd.f8 false true false false) :=
  law_lifted_laid (C := Tryd.checked) (tb := 4) (X := fun w => laidMetH Tryd.prog laid1 w) (fun _ _ hh h => h.of_heap hh) own started (by kernel_rfl) Tryd.func8
    (ChangeSpec.witness_shaped (enc := enc) (C := Tryd.checked) (os := os) (X := fun w _ => laidMetH Tryd.prog laid1 w) false (World.doorLaid Tryd.prog 400 os) #[.string ByteArray.empty, .int .i64 0] 8 rfl (World.shaped_of_RefB (by kernel_rfl) (by kernel_rfl)) (by kernel_rfl) (by kernel_rfl) (by kernel_rfl) (door_met os _))
    (by kernel_rfl) laidOut rfl rfl (fun ds h => by
      match ds, h with
      | [d1, d2], _ => rfl) (fun W h => glob_of h) s8 (fun y h => h.1)
theorem utfStepsOver : Rows.UtfStepsSaid :=
  OpenClaim.holds_of_wide 8 Tryd.f8 rfl rfl rfl rfl rfl rfl rfl ⟨rfl, rfl, rfl, rfl, rfl⟩ rfl rfl rfl rfl rfl (by kernel_rfl) Tryd.func8 (by kernel_rfl)
    (of_decide_eq_true (by kernel_rfl)) (by unfold Func.isWrapper; first | (rw [if_pos (by decide +kernel)]; kernel_rfl) | (rw [if_neg (by decide +kernel)]; exact ⟨rfl, rfl⟩))
    (fun os started H enc _ => utfStepsLifted os started H enc)
theorem utfStepsProved : Rows.UtfStepsCardSaid :=
  Claim7.holds_tied_plain_at .later [] [.data] true (true, "34b72d46536e5c7a45bd4df041d1c0a8553e694aa7cc47199e6b7b5b65a1b497") false
    utfStepsOver (fun _ h => by cases h) (by kernel_rfl) (fun _ h => by cases h) utfSteps_row_tie rfl ⟨rfl, rfl⟩ (by kernel_rfl) rfl
    (fun f fn hf hfn => by
      obtain rfl : f = 8 := Option.some.inj ((show Tryd.prog.funcNamed "bodkin/bodkinlaw01.UtfSteps" = some 8 by kernel_rfl).symm.trans hf) |>.symm
      obtain rfl : fn = Tryd.f8 := (Option.some.inj (Tryd.func8.symm.trans hfn)).symm
      exact ⟨by kernel_rfl, fun j t ht => by
        rw [Tryd.params8] at ht
        have hm : t ∈ [9, 3] := by simpa using Array.mem_of_getElem? ht
        have hall : ([9, 3].all fun u => !Tryd.prog.wantsStandIn u) = true := by kernel_rfl
        exact (show Tryd.prog.wantsStandIn t = false by simpa using List.all_eq_true.1 hall t hm)⟩)
    (by kernel_rfl)
#print axioms utfStepsProved
end Go.Proofs.YtldninnfpindoaaDoor
