/-
  Chapter C11: contracts of functions; rows of laws. Conditions: none.
-/
import Derived.Test.YtbecepgbplafmaaC11G
import Derived.Test.YtbecepgbplafmaaRows
namespace Go.Fr.C11
open Go Go.Fr Go.Proofs
theorem s40 : CallSpec Try.prog noGl 40 cSize := fn_spec tab_ok mixed ct_nil il_nil Try.func40 (by kernel_rfl) (vcEq40 ▸ p40)
theorem s39 : CallSpec Try.prog noGl 39 cWithin := fn_spec tab_ok mixed ct_nil il_nil Try.func39 (by kernel_rfl) (vcEq39 ▸ p39)
theorem s30 : CallSpec Try.prog noGl 30 cWithin := fn_spec tab_ok mixed ct_nil il_nil Try.func30 (by kernel_rfl) (vcEq30 ▸ p30)
theorem s28 : CallSpec Try.prog noGl 28 cDelta := fn_spec tab_ok mixed (ct_cons s40 ct_nil) il_nil Try.func28 (by kernel_rfl) (vcEq28 ▸ p28)
theorem s27 : CallSpec Try.prog noGl 27 cNormal := fn_spec tab_ok mixed (ct_cons s39 (ct_cons s40 ct_nil)) il_nil Try.func27 (by kernel_rfl) (vcEq27 ▸ p27)
theorem s18 : CallSpec Try.prog noGl 18 cRefNormal := fn_spec tab_ok mixed (ct_cons s30 ct_nil) il_nil Try.func18 (by kernel_rfl) (vcEq18 ▸ p18)
theorem s19 : CallSpec Try.prog noGl 19 cChanges := fn_spec tab_ok mixed ct_nil il_nil Try.func19 (by kernel_rfl) (vcEq19 ▸ p19)
theorem s29 : CallSpec Try.prog noGl 29 cMap := fn_spec tab_ok mixed (ct_cons s27 ct_nil) il_nil Try.func29 (by kernel_rfl) (vcEq29 ▸ p29)
theorem s31 : CallSpec Try.prog noGl 31 cRefMap := fn_spec tab_ok mixed ct_nil il_nil Try.func31 (by kernel_rfl) (vcEq31 ▸ p31)
theorem s37 : CallSpec Try.prog noGl 37 cCmp := fn_spec tab_ok mixed ct_nil (il_cons Try.func51 (by kernel_rfl) il_nil) Try.func37 (by kernel_rfl) (vcEq37 ▸ p37)
theorem s36 : CallSpec Try.prog noGl 36 cOr := fn_spec tab_ok mixed ct_nil il_nil Try.func36 (by kernel_rfl) (vcEq36 ▸ p36)
theorem s24 : CallSpec Try.prog noGl 24 cOrder := fn_spec tab_ok mixed (ct_cons s37 (ct_cons s36 ct_nil)) il_nil Try.func24 (by kernel_rfl) (vcEq24 ▸ p24)
theorem s22 : CallSpec Try.prog noGl 22 cClone := fn_spec tab_ok mixed ct_nil il_nil Try.func22 (by kernel_rfl) (vcEq22 ▸ p22)
theorem sO22 : CallSpec Try.prog noGl 22 cCloneO := fn_specO tab_ok mixed ct_nil il_nil rct_nil Try.func22 (by kernel_rfl) (vcEqO22 ▸ pO22)
theorem sO15 : CallSpec Try.prog noGl 15 cAllO := fn_specO tab_ok mixed (ct_cons sO22 ct_nil) il_nil rct_nil Try.func15 (by kernel_rfl) (vcEqO15 ▸ pO15)
theorem s15 : CallSpec Try.prog noGl 15 cAll := fn_spec tab_ok mixed (ct_cons s22 ct_nil) il_nil Try.func15 (by kernel_rfl) (vcEq15 ▸ p15)
theorem s9 : CallSpec Try.prog noGl 9 cNew := fn_specR tab_ok mixed (ct_cons sO22 (ct_cons s24 ct_nil)) il_nil (rct_cons (r23 s24) rct_nil) Try.func9 (by kernel_rfl) (vcEq9 ▸ p9)
theorem s10 : CallSpec Try.prog noGl 10 cWrong := fn_spec tab_ok mixed ct_nil il_nil Try.func10 (by kernel_rfl) (vcEq10 ▸ p10)
theorem s11 : CallSpec Try.prog noGl 11 cRefs := fn_spec tab_ok mixed ct_nil il_nil Try.func11 (by kernel_rfl) (vcEq11 ▸ p11)
theorem s12 : CallSpec Try.prog noGl 12 cOrdered := fn_spec tab_ok mixed ct_nil il_nil Try.func12 (by kernel_rfl) (vcEq12 ▸ p12)
theorem s13 : CallSpec Try.prog noGl 13 cGet := fn_spec tab_ok mixed ct_nil il_nil Try.func13 (by kernel_rfl) (vcEq13 ▸ p13)
theorem s14 : CallSpec Try.prog noGl 14 cSame := fn_spec tab_ok mixed (ct_cons s11 ct_nil) il_nil Try.func14 (by kernel_rfl) (vcEq14 ▸ p14)
theorem s16 : CallSpec Try.prog noGl 16 cBetween := fn_spec tab_ok mixed (ct_cons sO15 ct_nil) (il_cons Try.func26 (by kernel_rfl) (il_cons Try.func25 (by kernel_rfl) (il_cons Try.func38 (by kernel_rfl) il_nil))) Try.func16 (by kernel_rfl) (vcEq16 ▸ p16)
theorem s17 : CallSpec Try.prog noGl 17 cShift := fn_spec tab_ok mixed (ct_cons s27 (ct_cons s28 (ct_cons s15 (ct_cons s29 (ct_cons s9 ct_nil))))) il_nil Try.func17 (by kernel_rfl) (vcEq17 ▸ p17)
theorem s20 : CallSpec Try.prog noGl 20 cShifted := fn_spec tab_ok mixed (ct_cons s31 (ct_cons s12 ct_nil)) il_nil Try.func20 (by kernel_rfl) (vcEq20 ▸ p20)
theorem s21 : CallSpec Try.prog noGl 21 cInvert := fn_spec tab_ok mixed ct_nil (il_cons Try.func32 (by kernel_rfl) (il_cons Try.func33 (by kernel_rfl) il_nil)) Try.func21 (by kernel_rfl) (vcEq21 ▸ p21)
theorem s8 : CallSpec Try.prog noGl 8 cBoth := fn_spec tab_ok mixed (ct_cons s9 (ct_cons s17 (ct_cons s13 (ct_cons s16 ct_nil)))) il_nil Try.func8 (by kernel_rfl) (vcEq8 ▸ p8)
theorem s3 : CallSpec Try.prog noGl 3 cAnchorSets := fn_spec tab_ok mixed (ct_cons s8 (ct_cons s9 (ct_cons s11 (ct_cons s10 (ct_cons s12 (ct_cons s13 (ct_cons s15 (ct_cons s14 (ct_cons s16 ct_nil))))))))) il_nil Try.func3 (by kernel_rfl) (vcEq3 ▸ p3)
theorem s4 : CallSpec Try.prog noGl 4 cAnchorShifts := fn_spec tab_ok mixed (ct_cons s11 (ct_cons s10 (ct_cons s8 (ct_cons s9 (ct_cons s17 (ct_cons s15 (ct_cons s12 (ct_cons s14 (ct_cons s19 (ct_cons s18 (ct_cons s20 ct_nil))))))))))) il_nil Try.func4 (by kernel_rfl) (vcEq4 ▸ p4)
theorem s5 : CallSpec Try.prog noGl 5 cAnchorStays := fn_spec tab_ok mixed (ct_cons s8 (ct_cons s9 (ct_cons s17 (ct_cons s11 (ct_cons s10 (ct_cons s13 ct_nil)))))) il_nil Try.func5 (by kernel_rfl) (vcEq5 ▸ p5)
theorem s6 : CallSpec Try.prog noGl 6 cAnchorNil := fn_spec tab_ok mixed (ct_cons s8 (ct_cons s13 (ct_cons s17 (ct_cons s15 (ct_cons s16 (ct_cons s19 (ct_cons s18 ct_nil))))))) il_nil Try.func6 (by kernel_rfl) (vcEq6 ▸ p6)
theorem s7 : CallSpec Try.prog noGl 7 cAnchorBack := fn_spec tab_ok mixed (ct_cons s8 (ct_cons s9 (ct_cons s17 (ct_cons s11 (ct_cons s10 (ct_cons s21 (ct_cons s15 (ct_cons s14 ct_nil)))))))) il_nil Try.func7 (by kernel_rfl) (vcEq7 ▸ p7)
end Go.Fr.C11
namespace Go.Proofs.Ytbecepgbplafmaa
open Go Go.Fr Go.Fr.C11 Go.ChangeShapes Go.WideShapes Go.ChangeAt Go.RowKit
theorem own : ownKnob Try.prog.godebug = none := by kernel_rfl
theorem laidOut : laidOutB Try.prog = true := by kernel_rfl
set_option maxRecDepth 100000 in
theorem anchorSetsLifted (os : Os) (started : os.Started) (H : Type) (enc : TypeId × Value → H) :
    ReturnsInHanded {} Try.checked os 3 .any (Rows.anchorSetsSpec.pre6 enc Try.prog Try.f3 Rows.anchorSetsRow.domain false) (Rows.anchorSetsSpec.post enc Try.prog Try.f3 false true false false) :=
  law_lifted (C := Try.checked) (tb := 4) own started (by kernel_rfl) Try.func3
    (ChangeSpec.witness6 (enc := enc) (C := Try.checked) false ⟨#[], #[.int .i64 0, .slice none 0 0, .agg #[.int .i64 0, .int .i64 0, .int .i64 0]], []⟩ 8 (by kernel_rfl) (by kernel_rfl) (by kernel_rfl) (by kernel_rfl))
    (by kernel_rfl) laidOut rfl rfl (fun ds h => by
      match ds, h with
      | [d1, d2, d3], _ => rfl) s3 (fun y h => h.2.1.1)
theorem anchorSetsOver : Rows.anchorSetsRow.holds Try.pinned (OpenSpec.ofChange Rows.anchorSetsSpec) :=
  OpenClaim.holds_of_wide 3 Try.f3 rfl rfl rfl rfl rfl rfl rfl ⟨rfl, rfl, rfl, rfl, rfl⟩ rfl rfl rfl rfl rfl (by kernel_rfl) Try.func3 (by kernel_rfl)
    (of_decide_eq_true (by kernel_rfl)) (by unfold Func.isWrapper; first | (rw [if_pos (by decide +kernel)]; kernel_rfl) | (rw [if_neg (by decide +kernel)]; exact ⟨rfl, rfl⟩))
    (fun os started H enc _ => anchorSetsLifted os started H enc)
theorem anchorSetsProved : Rows.AnchorSetsSaid := anchorSetsOver
#print axioms anchorSetsProved
set_option maxRecDepth 100000 in
theorem anchorShiftsLifted (os : Os) (started : os.Started) (H : Type) (enc : TypeId × Value → H) :
    ReturnsInHanded {} Try.checked os 4 .any (Rows.anchorShiftsSpec.pre6 enc Try.prog Try.f4 Rows.anchorShiftsRow.domain false) (Rows.anchorShiftsSpec.post enc Try.prog Try.f4 false true false false) :=
  law_lifted (C := Try.checked) (tb := 4) own started (by kernel_rfl) Try.func4
    (ChangeSpec.witness6 (enc := enc) (C := Try.checked) false ⟨#[], #[.int .i64 0, .slice none 0 0, .slice none 0 0], []⟩ 8 (by kernel_rfl) (by kernel_rfl) (by kernel_rfl) (by kernel_rfl))
    (by kernel_rfl) laidOut rfl rfl (fun ds h => by
      match ds, h with
      | [d1, d2, d3], _ => rfl) s4 (fun y h => ⟨h.2.1.1, h.2.2.1.1⟩)
theorem anchorShiftsOver : Rows.anchorShiftsRow.holds Try.pinned (OpenSpec.ofChange Rows.anchorShiftsSpec) :=
  OpenClaim.holds_of_wide 4 Try.f4 rfl rfl rfl rfl rfl rfl rfl ⟨rfl, rfl, rfl, rfl, rfl⟩ rfl rfl rfl rfl rfl (by kernel_rfl) Try.func4 (by kernel_rfl)
    (of_decide_eq_true (by kernel_rfl)) (by unfold Func.isWrapper; first | (rw [if_pos (by decide +kernel)]; kernel_rfl) | (rw [if_neg (by decide +kernel)]; exact ⟨rfl, rfl⟩))
    (fun os started H enc _ => anchorShiftsLifted os started H enc)
theorem anchorShiftsProved : Rows.AnchorShiftsSaid := anchorShiftsOver
#print axioms anchorShiftsProved
set_option maxRecDepth 100000 in
theorem anchorStaysLifted (os : Os) (started : os.Started) (H : Type) (enc : TypeId × Value → H) :
    ReturnsInHanded {} Try.checked os 5 .any (Rows.anchorStaysSpec.pre6 enc Try.prog Try.f5 Rows.anchorStaysRow.domain false) (Rows.anchorStaysSpec.post enc Try.prog Try.f5 false true false false) :=
  law_lifted (C := Try.checked) (tb := 4) own started (by kernel_rfl) Try.func5
    (ChangeSpec.witness6 (enc := enc) (C := Try.checked) false ⟨#[], #[.int .i64 0, .slice none 0 0, .slice none 0 0], []⟩ 8 (by kernel_rfl) (by kernel_rfl) (by kernel_rfl) (by kernel_rfl))
    (by kernel_rfl) laidOut rfl rfl (fun ds h => by
      match ds, h with
      | [d1, d2, d3], _ => rfl) s5 (fun y h => ⟨h.2.1.1, h.2.2.1.1⟩)
theorem anchorStaysOver : Rows.anchorStaysRow.holds Try.pinned (OpenSpec.ofChange Rows.anchorStaysSpec) :=
  OpenClaim.holds_of_wide 5 Try.f5 rfl rfl rfl rfl rfl rfl rfl ⟨rfl, rfl, rfl, rfl, rfl⟩ rfl rfl rfl rfl rfl (by kernel_rfl) Try.func5 (by kernel_rfl)
    (of_decide_eq_true (by kernel_rfl)) (by unfold Func.isWrapper; first | (rw [if_pos (by decide +kernel)]; kernel_rfl) | (rw [if_neg (by decide +kernel)]; exact ⟨rfl, rfl⟩))
    (fun os started H enc _ => anchorStaysLifted os started H enc)
theorem anchorStaysProved : Rows.AnchorStaysSaid := anchorStaysOver
#print axioms anchorStaysProved
set_option maxRecDepth 100000 in
theorem anchorNilLifted (os : Os) (started : os.Started) (H : Type) (enc : TypeId × Value → H) :
    ReturnsInHanded {} Try.checked os 6 .any (Rows.anchorNilSpec.pre6 enc Try.prog Try.f6 Rows.anchorNilRow.domain false) (Rows.anchorNilSpec.post enc Try.prog Try.f6 false true false false) :=
  law_lifted (C := Try.checked) (tb := 4) own started (by kernel_rfl) Try.func6
    (ChangeSpec.witness6 (enc := enc) (C := Try.checked) false ⟨#[], #[.int .i64 0, .slice none 0 0], []⟩ 8 (by kernel_rfl) (by kernel_rfl) (by kernel_rfl) (by kernel_rfl))
    (by kernel_rfl) laidOut rfl rfl (fun ds h => by
      match ds, h with
      | [d1, d2], _ => rfl) s6 (fun y h => h.2.1.1)
theorem anchorNilOver : Rows.anchorNilRow.holds Try.pinned (OpenSpec.ofChange Rows.anchorNilSpec) :=
  OpenClaim.holds_of_wide 6 Try.f6 rfl rfl rfl rfl rfl rfl rfl ⟨rfl, rfl, rfl, rfl, rfl⟩ rfl rfl rfl rfl rfl (by kernel_rfl) Try.func6 (by kernel_rfl)
    (of_decide_eq_true (by kernel_rfl)) (by unfold Func.isWrapper; first | (rw [if_pos (by decide +kernel)]; kernel_rfl) | (rw [if_neg (by decide +kernel)]; exact ⟨rfl, rfl⟩))
    (fun os started H enc _ => anchorNilLifted os started H enc)
theorem anchorNilProved : Rows.AnchorNilSaid := anchorNilOver
#print axioms anchorNilProved
set_option maxRecDepth 100000 in
theorem anchorBackLifted (os : Os) (started : os.Started) (H : Type) (enc : TypeId × Value → H) :
    ReturnsInHanded {} Try.checked os 7 .any (Rows.anchorBackSpec.pre6 enc Try.prog Try.f7 Rows.anchorBackRow.domain false) (Rows.anchorBackSpec.post enc Try.prog Try.f7 false true false false) :=
  law_lifted (C := Try.checked) (tb := 4) own started (by kernel_rfl) Try.func7
    (ChangeSpec.witness6 (enc := enc) (C := Try.checked) false ⟨#[], #[.int .i64 0, .int .i64 0, .slice none 0 0], []⟩ 8 (by kernel_rfl) (by kernel_rfl) (by kernel_rfl) (by kernel_rfl))
    (by kernel_rfl) laidOut rfl rfl (fun ds h => by
      match ds, h with
      | [d1, d2, d3], _ => rfl) s7 (fun y h => h.2.2.1.1)
theorem anchorBackOver : Rows.anchorBackRow.holds Try.pinned (OpenSpec.ofChange Rows.anchorBackSpec) :=
  OpenClaim.holds_of_wide 7 Try.f7 rfl rfl rfl rfl rfl rfl rfl ⟨rfl, rfl, rfl, rfl, rfl⟩ rfl rfl rfl rfl rfl (by kernel_rfl) Try.func7 (by kernel_rfl)
    (of_decide_eq_true (by kernel_rfl)) (by unfold Func.isWrapper; first | (rw [if_pos (by decide +kernel)]; kernel_rfl) | (rw [if_neg (by decide +kernel)]; exact ⟨rfl, rfl⟩))
    (fun os started H enc _ => anchorBackLifted os started H enc)
theorem anchorBackProved : Rows.AnchorBackSaid := anchorBackOver
#print axioms anchorBackProved
end Go.Proofs.Ytbecepgbplafmaa
