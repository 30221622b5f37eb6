/-
  Chapter C13: contracts of functions; rows of laws. Conditions: none.
-/
import Derived.Test.YtepnpmaoodljkaaDoorC13K
import Derived.Test.YtepnpmaoodljkaaDoorCards
import Derived.Test.YtepnpmaoodljkaaDoorTie
namespace Go.Fr.C13
open Go Go.Fr Go.Proofs
theorem s53 : CallSpec Tryd.prog gl 53 cSize := fn_spec tab_ok mixed ct_nil il_nil Tryd.func53 (by kernel_rfl) (vcEq53 ▸ p53)
theorem s52 : CallSpec Tryd.prog gl 52 cWithin := fn_spec tab_ok mixed ct_nil il_nil Tryd.func52 (by kernel_rfl) (vcEq52 ▸ p52)
theorem s54 : CallSpec Tryd.prog gl 54 cWithin := fn_spec tab_ok mixed ct_nil il_nil Tryd.func54 (by kernel_rfl) (vcEq54 ▸ p54)
theorem s36 : CallSpec Tryd.prog gl 36 cDelta := fn_spec tab_ok mixed (ct_cons s53 ct_nil) il_nil Tryd.func36 (by kernel_rfl) (vcEq36 ▸ p36)
theorem s35 : CallSpec Tryd.prog gl 35 cNormal := fn_spec tab_ok mixed (ct_cons s52 (ct_cons s53 ct_nil)) il_nil Tryd.func35 (by kernel_rfl) (vcEq35 ▸ p35)
theorem s38 : CallSpec Tryd.prog gl 38 cRefNormal := fn_spec tab_ok mixed (ct_cons s54 ct_nil) il_nil Tryd.func38 (by kernel_rfl) (vcEq38 ▸ p38)
theorem s21 : CallSpec Tryd.prog gl 21 cChanges := fn_spec tab_ok mixed ct_nil il_nil Tryd.func21 (by kernel_rfl) (vcEq21 ▸ p21)
theorem s37 : CallSpec Tryd.prog gl 37 cMap := fn_spec tab_ok mixed (ct_cons s35 ct_nil) il_nil Tryd.func37 (by kernel_rfl) (vcEq37 ▸ p37)
theorem s39 : CallSpec Tryd.prog gl 39 cRefMap := fn_spec tab_ok mixed ct_nil il_nil Tryd.func39 (by kernel_rfl) (vcEq39 ▸ p39)
theorem s47 : CallSpec Tryd.prog gl 47 cCmp := fn_spec tab_ok mixed ct_nil (il_cons Tryd.func67 (by kernel_rfl) il_nil) Tryd.func47 (by kernel_rfl) (vcEq47 ▸ p47)
theorem s46 : CallSpec Tryd.prog gl 46 cOr := fn_spec tab_ok mixed ct_nil il_nil Tryd.func46 (by kernel_rfl) (vcEq46 ▸ p46)
theorem s26 : CallSpec Tryd.prog gl 26 cOrder := fn_spec tab_ok mixed (ct_cons s47 (ct_cons s46 ct_nil)) il_nil Tryd.func26 (by kernel_rfl) (vcEq26 ▸ p26)
theorem s56 : CallSpec Tryd.prog gl 56 cRight := fn_spec tab_ok mixed ct_nil il_nil Tryd.func56 (by kernel_rfl) (vcEq56 ▸ p56)
theorem s48 : CallSpec Tryd.prog gl 48 cUSize := fn_spec tab_ok mixed ct_nil il_nil Tryd.func48 (by kernel_rfl) (vcEq48 ▸ p48)
theorem s49 : CallSpec Tryd.prog gl 49 cOne := fn_spec tab_ok mixed ct_nil il_nil Tryd.func49 (by kernel_rfl) (vcEq49 ▸ p49)
theorem s68 : CallSpec Tryd.prog gl 68 cNumber := fn_spec tab_ok mixed ct_nil il_nil Tryd.func68 (by kernel_rfl) (vcEq68 ▸ p68)
theorem s50 : CallSpec Tryd.prog gl 50 cRStep := fn_spec tab_ok mixed (ct_cons s68 (ct_cons s48 (ct_cons s49 ct_nil))) il_nil Tryd.func50 (by kernel_rfl) (vcEq50 ▸ p50)
theorem s29 : CallSpec Tryd.prog gl 29 cRDecode := fn_spec tab_ok mixed (ct_cons s50 ct_nil) il_nil Tryd.func29 (by kernel_rfl) (vcEq29 ▸ p29)
theorem s43 : CallSpec Tryd.prog gl 43 cDecode := fn_spec tab_ok mixed ct_nil il_nil Tryd.func43 (by kernel_rfl) (vcEq43 ▸ p43)
theorem s40 : CallSpec Tryd.prog gl 40 cCount := fn_spec tab_ok mixed ct_nil il_nil Tryd.func40 (by kernel_rfl) (vcEq40 ▸ p40)
theorem s28 : CallSpec Tryd.prog gl 28 cREncode := fn_spec tab_ok mixed (ct_cons s48 (ct_cons s49 ct_nil)) il_nil Tryd.func28 (by kernel_rfl) (vcEq28 ▸ p28)
theorem s42 : CallSpec Tryd.prog gl 42 cEncode := fn_spec tab_ok mixed (ct_cons s56 ct_nil) il_nil Tryd.func42 (by kernel_rfl) (vcEq42 ▸ p42)
theorem s24 : CallSpec Tryd.prog gl 24 cClean := fn_spec tab_ok mixed (ct_cons s43 (ct_cons s42 ct_nil)) il_nil Tryd.func24 (by kernel_rfl) (vcEq24 ▸ p24)
theorem s34 : CallSpec Tryd.prog gl 34 cClone := fn_spec tab_ok mixed ct_nil il_nil Tryd.func34 (by kernel_rfl) (vcEq34 ▸ p34)
theorem sO34 : CallSpec Tryd.prog gl 34 cCloneO := fn_specO tab_ok mixed ct_nil il_nil rct_nil Tryd.func34 (by kernel_rfl) (vcEqO34 ▸ pO34)
theorem s22 : CallSpec Tryd.prog gl 22 cLen := fn_spec tab_ok mixed ct_nil il_nil Tryd.func22 (by kernel_rfl) (vcEq22 ▸ p22)
theorem s18 : CallSpec Tryd.prog gl 18 cAll := fn_spec tab_ok mixed (ct_cons s34 ct_nil) il_nil Tryd.func18 (by kernel_rfl) (vcEq18 ▸ p18)
theorem sO18 : CallSpec Tryd.prog gl 18 cAllO := fn_specO tab_ok mixed (ct_cons sO34 ct_nil) il_nil rct_nil Tryd.func18 (by kernel_rfl) (vcEqO18 ▸ pO18)
theorem s23 : CallSpec Tryd.prog gl 23 cWrong := fn_spec tab_ok mixed (ct_cons s40 (ct_cons (s41 _) ct_nil)) il_nil Tryd.func23 (by kernel_rfl) (vcEq23 ▸ p23)
theorem s27 : CallSpec Tryd.prog gl 27 cRefWrong := fn_spec tab_ok mixed (ct_cons s29 ct_nil) il_nil Tryd.func27 (by kernel_rfl) (vcEq27 ▸ p27)
theorem s30 : CallSpec Tryd.prog gl 30 cAhead := fn_spec tab_ok mixed ct_nil il_nil Tryd.func30 (by kernel_rfl) (vcEq30 ▸ p30)
theorem s33 : CallSpec Tryd.prog gl 33 cTimes := fn_spec tab_ok mixed ct_nil il_nil Tryd.func33 (by kernel_rfl) (vcEq33 ▸ p33)
theorem s13 : CallSpec Tryd.prog gl 13 cSame := fn_spec tab_ok mixed ct_nil il_nil Tryd.func13 (by kernel_rfl) (vcEq13 ▸ p13)
theorem s12 : CallSpec Tryd.prog gl 12 cIs := fn_spec tab_ok mixed (ct_cons s18 (ct_cons s13 (ct_cons s22 ct_nil))) il_nil Tryd.func12 (by kernel_rfl) (vcEq12 ▸ p12)
theorem s15 : CallSpec Tryd.prog gl 15 cRefBetween := fn_spec tab_ok mixed ct_nil il_nil Tryd.func15 (by kernel_rfl) (vcEq15 ▸ p15)
theorem s8 : CallSpec Tryd.prog gl 8 cLong := fn_spec tab_ok mixed ct_nil il_nil Tryd.func8 (by kernel_rfl) (vcEq8 ▸ p8)
theorem n47 : CallSpec Tryd.prog noGl 47 cCmp := fn_spec tab_ok mixed ct_nil (il_cons Tryd.func67 (by kernel_rfl) il_nil) Tryd.func47 (by kernel_rfl) ((by kernel_rfl : fnVC (env tab [] [(67, Tryd.f67)] noGl hs47 nm47) Tryd.f47 (bodyOf Tryd.f47) cCmp = vc47) ▸ p47)
theorem n46 : CallSpec Tryd.prog noGl 46 cOr := fn_spec tab_ok mixed ct_nil il_nil Tryd.func46 (by kernel_rfl) ((by kernel_rfl : fnVC (env tab [] [] noGl hs46 nm46) Tryd.f46 (bodyOf Tryd.f46) cOr = vc46) ▸ p46)
theorem n26 : CallSpec Tryd.prog noGl 26 cOrder := fn_spec tab_ok mixed (ct_cons n47 (ct_cons n46 ct_nil)) il_nil Tryd.func26 (by kernel_rfl) ((by kernel_rfl : fnVC (env tab [(47, cCmp), (46, cOr)] [] noGl hs26 nm26) Tryd.f26 (bodyOf Tryd.f26) cOrder = vc26) ▸ p26)
theorem s10 : CallSpec Tryd.prog gl 10 cNew := fn_specR tab_ok mixed (ct_cons s23 (ct_cons s24 (ct_cons s26 ct_nil))) il_nil (rct_cons (r25 n26) rct_nil) Tryd.func10 (by kernel_rfl) (vcEq10 ▸ p10)
theorem s11 : CallSpec Tryd.prog gl 11 cRefNew := fn_spec tab_ok mixed (ct_cons s27 (ct_cons s29 (ct_cons s28 (ct_cons s30 ct_nil)))) il_nil Tryd.func11 (by kernel_rfl) (vcEq11 ▸ p11)
theorem s14 : CallSpec Tryd.prog gl 14 cBetween := fn_spec tab_ok mixed (ct_cons sO18 ct_nil) (il_cons Tryd.func32 (by kernel_rfl) (il_cons Tryd.func31 (by kernel_rfl) (il_cons Tryd.func51 (by kernel_rfl) il_nil))) Tryd.func14 (by kernel_rfl) (vcEq14 ▸ p14)
theorem s16 : CallSpec Tryd.prog gl 16 cSplice := fn_spec tab_ok mixed (ct_cons s18 (ct_cons s22 (ct_cons s10 ct_nil))) il_nil Tryd.func16 (by kernel_rfl) (vcEq16 ▸ p16)
theorem s17 : CallSpec Tryd.prog gl 17 cRefSplice := fn_spec tab_ok mixed (ct_cons s33 (ct_cons s11 ct_nil)) il_nil Tryd.func17 (by kernel_rfl) (vcEq17 ▸ p17)
theorem s19 : CallSpec Tryd.prog gl 19 cShift := fn_spec tab_ok mixed (ct_cons s22 (ct_cons s35 (ct_cons s36 (ct_cons sO18 (ct_cons s37 (ct_cons s10 ct_nil)))))) il_nil Tryd.func19 (by kernel_rfl) (vcEq19 ▸ p19)
theorem s20 : CallSpec Tryd.prog gl 20 cRefShift := fn_spec tab_ok mixed (ct_cons s38 (ct_cons s39 (ct_cons s11 ct_nil))) il_nil Tryd.func20 (by kernel_rfl) (vcEq20 ▸ p20)
theorem s9 : CallSpec Tryd.prog gl 9 cThree := fn_spec tab_ok mixed (ct_cons s10 (ct_cons s18 (ct_cons s22 (ct_cons s14 ct_nil)))) il_nil Tryd.func9 (by kernel_rfl) (vcEq9 ▸ p9)
theorem s3 : CallSpec Tryd.prog gl 3 cInlaysNew := fn_spec tab_ok mixed (ct_cons s8 (ct_cons s9 (ct_cons s10 (ct_cons s11 (ct_cons s12 (ct_cons s14 (ct_cons s15 (ct_cons s13 ct_nil)))))))) il_nil Tryd.func3 (by kernel_rfl) (vcEq3 ▸ p3)
theorem s4 : CallSpec Tryd.prog gl 4 cInlaysBack := fn_spec tab_ok mixed (ct_cons s8 (ct_cons s9 (ct_cons s10 (ct_cons s11 (ct_cons s16 (ct_cons s17 (ct_cons s18 (ct_cons s13 ct_nil)))))))) il_nil Tryd.func4 (by kernel_rfl) (vcEq4 ▸ p4)
theorem s5 : CallSpec Tryd.prog gl 5 cInlaysTogether := fn_spec tab_ok mixed (ct_cons s8 (ct_cons s9 (ct_cons s10 (ct_cons s11 (ct_cons s19 (ct_cons s21 (ct_cons s20 (ct_cons s18 ct_nil)))))))) il_nil Tryd.func5 (by kernel_rfl) (vcEq5 ▸ p5)
theorem s6 : CallSpec Tryd.prog gl 6 cInlaysSteps := fn_spec tab_ok mixed (ct_cons s8 (ct_cons s9 (ct_cons s10 (ct_cons s11 (ct_cons s12 (ct_cons s19 (ct_cons s21 (ct_cons s20 (ct_cons s16 (ct_cons s17 ct_nil)))))))))) il_nil Tryd.func6 (by kernel_rfl) (vcEq6 ▸ p6)
theorem s7 : CallSpec Tryd.prog gl 7 cInlaysNil := fn_spec tab_ok mixed (ct_cons s9 (ct_cons s16 (ct_cons s19 (ct_cons s22 (ct_cons s18 (ct_cons s14 ct_nil)))))) il_nil Tryd.func7 (by kernel_rfl) (vcEq7 ▸ p7)
end Go.Fr.C13
namespace Go.Proofs.YtepnpmaoodljkaaDoor
open Go Go.Fr Go.Fr.C13 Go.ChangeShapes Go.WideShapes Go.ChangeAt Go.RowKit
theorem own : ownKnob Tryd.prog.godebug = none := by kernel_rfl
theorem laidOut : laidOutB Tryd.prog = true := by kernel_rfl
abbrev laid1 {H : Type} : List (String × DataW H) := [("bodkin/utf.most", Rows.laid_bodkin_utf_most)]
theorem door_met (os : Os) (args : Array Value) : laidMetH Tryd.prog laid1 ((World.doorLaid Tryd.prog 400 os).forCall (fun _ _ => 0) ⟨#[], args, []⟩).memory :=
  laidMetH_of_parts3 (fuel := 8) (laidMet_of_run' 8 (by kernel_rfl) (by kernel_rfl)) (by kernel_rfl) (by kernel_rfl)
set_option maxRecDepth 100000 in
theorem inlaysNewLifted (os : Os) (started : os.Started) (H : Type) (enc : TypeId × Value → H) :
    ReturnsInHanded {} Tryd.checked os 3 .any (fun w args => (Rows.inlaysNewSpec.pre enc Tryd.prog Tryd.f3 [] false w args ∧ laidMetH Tryd.prog laid1 w) ∧ sizedMet enc Tryd.prog Tryd.f3 (OpenSpec.ofChange Rows.inlaysNewSpec) false w args)
      (Rows.inlaysNewSpec.post enc Tryd.prog Tryd.f3 false true false false) :=
  law_lifted_laid (C := Tryd.checked) (tb := 4) (X := fun w => laidMetH Tryd.prog laid1 w) (fun _ _ hh h => h.of_heap hh) own started (by kernel_rfl) Tryd.func3
    (ChangeSpec.witness_shaped (enc := enc) (C := Tryd.checked) (os := os) (X := fun w _ => laidMetH Tryd.prog laid1 w) false (World.doorLaid Tryd.prog 400 os) #[.int .i64 0, .slice none 0 0, .agg #[.int .i64 0, .int .i64 0]] 8 rfl (World.shaped_of_RefB (by kernel_rfl) (by kernel_rfl)) (by kernel_rfl) (by kernel_rfl) (by kernel_rfl) (door_met os _))
    (by kernel_rfl) laidOut rfl rfl (fun ds h => by
      match ds, h with
      | [d1, d2, d3], _ => rfl) (fun W h => glob_of h) s3 (fun y h => h.2.1.1)
theorem inlaysNewOver : Rows.InlaysNewSaid :=
  OpenClaim.holds_of_wide 3 Tryd.f3 rfl rfl rfl rfl rfl rfl rfl ⟨rfl, rfl, rfl, rfl, rfl⟩ rfl rfl rfl rfl rfl (by kernel_rfl) Tryd.func3 (by kernel_rfl)
    (of_decide_eq_true (by kernel_rfl)) (by unfold Func.isWrapper; first | (rw [if_pos (by decide +kernel)]; kernel_rfl) | (rw [if_neg (by decide +kernel)]; exact ⟨rfl, rfl⟩))
    (fun os started H enc _ => inlaysNewLifted os started H enc)
theorem inlaysNewProved : Rows.InlaysNewCardSaid :=
  Claim7.holds_tied_plain_at .later [] [.data] true (true, "7472c884c9f1d630a9276a5021447721dca1dcd254c47f1d4c904118fbe955d7") false
    inlaysNewOver (fun _ h => by cases h) (by kernel_rfl) (fun _ h => by cases h) inlaysNew_row_tie rfl ⟨rfl, rfl⟩ (by kernel_rfl) rfl
    (fun f fn hf hfn => by
      obtain rfl : f = 3 := Option.some.inj ((show Tryd.prog.funcNamed "bodkin/bodkinlaw13.InlaysNew" = some 3 by kernel_rfl).symm.trans hf) |>.symm
      obtain rfl : fn = Tryd.f3 := (Option.some.inj (Tryd.func3.symm.trans hfn)).symm
      exact ⟨by kernel_rfl, fun j t ht => by
        rw [Tryd.params3] at ht
        have hm : t ∈ [3, 22, 24] := by simpa using Array.mem_of_getElem? ht
        have hall : ([3, 22, 24].all fun u => !Tryd.prog.wantsStandIn u) = true := by kernel_rfl
        exact (show Tryd.prog.wantsStandIn t = false by simpa using List.all_eq_true.1 hall t hm)⟩)
    (by kernel_rfl)
#print axioms inlaysNewProved
set_option maxRecDepth 100000 in
theorem inlaysBackLifted (os : Os) (started : os.Started) (H : Type) (enc : TypeId × Value → H) :
    ReturnsInHanded {} Tryd.checked os 4 .any (fun w args => (Rows.inlaysBackSpec.pre enc Tryd.prog Tryd.f4 [] false w args ∧ laidMetH Tryd.prog laid1 w) ∧ sizedMet enc Tryd.prog Tryd.f4 (OpenSpec.ofChange Rows.inlaysBackSpec) false w args)
      (Rows.inlaysBackSpec.post enc Tryd.prog Tryd.f4 false true false false) :=
  law_lifted_laid (C := Tryd.checked) (tb := 4) (X := fun w => laidMetH Tryd.prog laid1 w) (fun _ _ hh h => h.of_heap hh) own started (by kernel_rfl) Tryd.func4
    (ChangeSpec.witness_shaped (enc := enc) (C := Tryd.checked) (os := os) (X := fun w _ => laidMetH Tryd.prog laid1 w) false (World.doorLaid Tryd.prog 400 os) #[.int .i64 0, .slice none 0 0, .slice none 0 0] 8 rfl (World.shaped_of_RefB (by kernel_rfl) (by kernel_rfl)) (by kernel_rfl) (by kernel_rfl) (by kernel_rfl) (door_met os _))
    (by kernel_rfl) laidOut rfl rfl (fun ds h => by
      match ds, h with
      | [d1, d2, d3], _ => rfl) (fun W h => glob_of h) s4 (fun y h => ⟨h.2.1.1, h.2.2.1.1⟩)
theorem inlaysBackOver : Rows.InlaysBackSaid :=
  OpenClaim.holds_of_wide 4 Tryd.f4 rfl rfl rfl rfl rfl rfl rfl ⟨rfl, rfl, rfl, rfl, rfl⟩ rfl rfl rfl rfl rfl (by kernel_rfl) Tryd.func4 (by kernel_rfl)
    (of_decide_eq_true (by kernel_rfl)) (by unfold Func.isWrapper; first | (rw [if_pos (by decide +kernel)]; kernel_rfl) | (rw [if_neg (by decide +kernel)]; exact ⟨rfl, rfl⟩))
    (fun os started H enc _ => inlaysBackLifted os started H enc)
theorem inlaysBackProved : Rows.InlaysBackCardSaid :=
  Claim7.holds_tied_plain_at .later [] [.data] true (true, "7472c884c9f1d630a9276a5021447721dca1dcd254c47f1d4c904118fbe955d7") false
    inlaysBackOver (fun _ h => by cases h) (by kernel_rfl) (fun _ h => by cases h) inlaysBack_row_tie rfl ⟨rfl, rfl⟩ (by kernel_rfl) rfl
    (fun f fn hf hfn => by
      obtain rfl : f = 4 := Option.some.inj ((show Tryd.prog.funcNamed "bodkin/bodkinlaw13.InlaysBack" = some 4 by kernel_rfl).symm.trans hf) |>.symm
      obtain rfl : fn = Tryd.f4 := (Option.some.inj (Tryd.func4.symm.trans hfn)).symm
      exact ⟨by kernel_rfl, fun j t ht => by
        rw [Tryd.params4] at ht
        have hm : t ∈ [3, 22, 22] := by simpa using Array.mem_of_getElem? ht
        have hall : ([3, 22, 22].all fun u => !Tryd.prog.wantsStandIn u) = true := by kernel_rfl
        exact (show Tryd.prog.wantsStandIn t = false by simpa using List.all_eq_true.1 hall t hm)⟩)
    (by kernel_rfl)
#print axioms inlaysBackProved
set_option maxRecDepth 100000 in
theorem inlaysTogetherLifted (os : Os) (started : os.Started) (H : Type) (enc : TypeId × Value → H) :
    ReturnsInHanded {} Tryd.checked os 5 .any (fun w args => (Rows.inlaysTogetherSpec.pre enc Tryd.prog Tryd.f5 [] false w args ∧ laidMetH Tryd.prog laid1 w) ∧ sizedMet enc Tryd.prog Tryd.f5 (OpenSpec.ofChange Rows.inlaysTogetherSpec) false w args)
      (Rows.inlaysTogetherSpec.post enc Tryd.prog Tryd.f5 false true false false) :=
  law_lifted_laid (C := Tryd.checked) (tb := 4) (X := fun w => laidMetH Tryd.prog laid1 w) (fun _ _ hh h => h.of_heap hh) own started (by kernel_rfl) Tryd.func5
    (ChangeSpec.witness_shaped (enc := enc) (C := Tryd.checked) (os := os) (X := fun w _ => laidMetH Tryd.prog laid1 w) false (World.doorLaid Tryd.prog 400 os) #[.int .i64 0, .slice none 0 0, .slice none 0 0] 8 rfl (World.shaped_of_RefB (by kernel_rfl) (by kernel_rfl)) (by kernel_rfl) (by kernel_rfl) (by kernel_rfl) (door_met os _))
    (by kernel_rfl) laidOut rfl rfl (fun ds h => by
      match ds, h with
      | [d1, d2, d3], _ => rfl) (fun W h => glob_of h) s5 (fun y h => ⟨h.2.1.1, h.2.2.1.1⟩)
theorem inlaysTogetherOver : Rows.InlaysTogetherSaid :=
  OpenClaim.holds_of_wide 5 Tryd.f5 rfl rfl rfl rfl rfl rfl rfl ⟨rfl, rfl, rfl, rfl, rfl⟩ rfl rfl rfl rfl rfl (by kernel_rfl) Tryd.func5 (by kernel_rfl)
    (of_decide_eq_true (by kernel_rfl)) (by unfold Func.isWrapper; first | (rw [if_pos (by decide +kernel)]; kernel_rfl) | (rw [if_neg (by decide +kernel)]; exact ⟨rfl, rfl⟩))
    (fun os started H enc _ => inlaysTogetherLifted os started H enc)
theorem inlaysTogetherProved : Rows.InlaysTogetherCardSaid :=
  Claim7.holds_tied_plain_at .later [] [.data] true (true, "7472c884c9f1d630a9276a5021447721dca1dcd254c47f1d4c904118fbe955d7") false
    inlaysTogetherOver (fun _ h => by cases h) (by kernel_rfl) (fun _ h => by cases h) inlaysTogether_row_tie rfl ⟨rfl, rfl⟩ (by kernel_rfl) rfl
    (fun f fn hf hfn => by
      obtain rfl : f = 5 := Option.some.inj ((show Tryd.prog.funcNamed "bodkin/bodkinlaw13.InlaysTogether" = some 5 by kernel_rfl).symm.trans hf) |>.symm
      obtain rfl : fn = Tryd.f5 := (Option.some.inj (Tryd.func5.symm.trans hfn)).symm
      exact ⟨by kernel_rfl, fun j t ht => by
        rw [Tryd.params5] at ht
        have hm : t ∈ [3, 22, 45] := by simpa using Array.mem_of_getElem? ht
        have hall : ([3, 22, 45].all fun u => !Tryd.prog.wantsStandIn u) = true := by kernel_rfl
        exact (show Tryd.prog.wantsStandIn t = false by simpa using List.all_eq_true.1 hall t hm)⟩)
    (by kernel_rfl)
#print axioms inlaysTogetherProved
set_option maxRecDepth 100000 in
theorem inlaysStepsLifted (os : Os) (started : os.Started) (H : Type) (enc : TypeId × Value → H) :
    ReturnsInHanded {} Tryd.checked os 6 .any (fun w args => (Rows.inlaysStepsSpec.pre enc Tryd.prog Tryd.f6 [] false w args ∧ laidMetH Tryd.prog laid1 w) ∧ sizedMet enc Tryd.prog Tryd.f6 (OpenSpec.ofChange Rows.inlaysStepsSpec) false w args)
      (Rows.inlaysStepsSpec.post enc Tryd.prog Tryd.f6 false true false false) :=
  law_lifted_laid (C := Tryd.checked) (tb := 4) (X := fun w => laidMetH Tryd.prog laid1 w) (fun _ _ hh h => h.of_heap hh) own started (by kernel_rfl) Tryd.func6
    (ChangeSpec.witness_shaped (enc := enc) (C := Tryd.checked) (os := os) (X := fun w _ => laidMetH Tryd.prog laid1 w) false (World.doorLaid Tryd.prog 400 os) #[.int .i64 0, .slice none 0 0, .slice none 0 0] 8 rfl (World.shaped_of_RefB (by kernel_rfl) (by kernel_rfl)) (by kernel_rfl) (by kernel_rfl) (by kernel_rfl) (door_met os _))
    (by kernel_rfl) laidOut rfl rfl (fun ds h => by
      match ds, h with
      | [d1, d2, d3], _ => rfl) (fun W h => glob_of h) s6 (fun y h => ⟨h.2.1.1, h.2.2.1.1, fun o ho => ⟨(h.2.2.1.2 o ho).2.1.1, (h.2.2.1.2 o ho).2.2.1.1, (h.2.2.1.2 o ho).2.2.2.1.1⟩⟩)
theorem inlaysStepsOver : Rows.InlaysStepsSaid :=
  OpenClaim.holds_of_wide 6 Tryd.f6 rfl rfl rfl rfl rfl rfl rfl ⟨rfl, rfl, rfl, rfl, rfl⟩ rfl rfl rfl rfl rfl (by kernel_rfl) Tryd.func6 (by kernel_rfl)
    (of_decide_eq_true (by kernel_rfl)) (by unfold Func.isWrapper; first | (rw [if_pos (by decide +kernel)]; kernel_rfl) | (rw [if_neg (by decide +kernel)]; exact ⟨rfl, rfl⟩))
    (fun os started H enc _ => inlaysStepsLifted os started H enc)
theorem inlaysStepsProved : Rows.InlaysStepsCardSaid :=
  Claim7.holds_tied_plain_at .later [] [.data] true (true, "7472c884c9f1d630a9276a5021447721dca1dcd254c47f1d4c904118fbe955d7") false
    inlaysStepsOver (fun _ h => by cases h) (by kernel_rfl) (fun _ h => by cases h) inlaysSteps_row_tie rfl ⟨rfl, rfl⟩ (by kernel_rfl) rfl
    (fun f fn hf hfn => by
      obtain rfl : f = 6 := Option.some.inj ((show Tryd.prog.funcNamed "bodkin/bodkinlaw13.InlaysSteps" = some 6 by kernel_rfl).symm.trans hf) |>.symm
      obtain rfl : fn = Tryd.f6 := (Option.some.inj (Tryd.func6.symm.trans hfn)).symm
      exact ⟨by kernel_rfl, fun j t ht => by
        rw [Tryd.params6] at ht
        have hm : t ∈ [3, 22, 51] := by simpa using Array.mem_of_getElem? ht
        have hall : ([3, 22, 51].all fun u => !Tryd.prog.wantsStandIn u) = true := by kernel_rfl
        exact (show Tryd.prog.wantsStandIn t = false by simpa using List.all_eq_true.1 hall t hm)⟩)
    (by kernel_rfl)
#print axioms inlaysStepsProved
set_option maxRecDepth 100000 in
theorem inlaysNilLifted (os : Os) (started : os.Started) (H : Type) (enc : TypeId × Value → H) :
    ReturnsInHanded {} Tryd.checked os 7 .any (fun w args => (Rows.inlaysNilSpec.pre enc Tryd.prog Tryd.f7 [] false w args ∧ laidMetH Tryd.prog laid1 w) ∧ sizedMet enc Tryd.prog Tryd.f7 (OpenSpec.ofChange Rows.inlaysNilSpec) false w args)
      (Rows.inlaysNilSpec.post enc Tryd.prog Tryd.f7 false true false false) :=
  law_lifted_laid (C := Tryd.checked) (tb := 4) (X := fun w => laidMetH Tryd.prog laid1 w) (fun _ _ hh h => h.of_heap hh) own started (by kernel_rfl) Tryd.func7
    (ChangeSpec.witness_shaped (enc := enc) (C := Tryd.checked) (os := os) (X := fun w _ => laidMetH Tryd.prog laid1 w) false (World.doorLaid Tryd.prog 400 os) #[.slice none 0 0] 8 rfl (World.shaped_of_RefB (by kernel_rfl) (by kernel_rfl)) (by kernel_rfl) (by kernel_rfl) (by kernel_rfl) (door_met os _))
    (by kernel_rfl) laidOut rfl rfl (fun ds h => by
      match ds, h with
      | [d1], _ => rfl) (fun W h => glob_of h) s7 (fun y h => h.1.1)
theorem inlaysNilOver : Rows.InlaysNilSaid :=
  OpenClaim.holds_of_wide 7 Tryd.f7 rfl rfl rfl rfl rfl rfl rfl ⟨rfl, rfl, rfl, rfl, rfl⟩ rfl rfl rfl rfl rfl (by kernel_rfl) Tryd.func7 (by kernel_rfl)
    (of_decide_eq_true (by kernel_rfl)) (by unfold Func.isWrapper; first | (rw [if_pos (by decide +kernel)]; kernel_rfl) | (rw [if_neg (by decide +kernel)]; exact ⟨rfl, rfl⟩))
    (fun os started H enc _ => inlaysNilLifted os started H enc)
theorem inlaysNilProved : Rows.InlaysNilCardSaid :=
  Claim7.holds_tied_plain_at .later [] [.data] true (true, "7472c884c9f1d630a9276a5021447721dca1dcd254c47f1d4c904118fbe955d7") false
    inlaysNilOver (fun _ h => by cases h) (by kernel_rfl) (fun _ h => by cases h) inlaysNil_row_tie rfl ⟨rfl, rfl⟩ (by kernel_rfl) rfl
    (fun f fn hf hfn => by
      obtain rfl : f = 7 := Option.some.inj ((show Tryd.prog.funcNamed "bodkin/bodkinlaw13.InlaysNil" = some 7 by kernel_rfl).symm.trans hf) |>.symm
      obtain rfl : fn = Tryd.f7 := (Option.some.inj (Tryd.func7.symm.trans hfn)).symm
      exact ⟨by kernel_rfl, fun j t ht => by
        rw [Tryd.params7] at ht
        have hm : t ∈ [40] := by simpa using Array.mem_of_getElem? ht
        have hall : ([40].all fun u => !Tryd.prog.wantsStandIn u) = true := by kernel_rfl
        exact (show Tryd.prog.wantsStandIn t = false by simpa using List.all_eq_true.1 hall t hm)⟩)
    (by kernel_rfl)
#print axioms inlaysNilProved

end Go.Proofs.YtepnpmaoodljkaaDoor
