/-
  Chapter C20: contracts of functions; rows of laws. Conditions: none.
-/
import Derived.Test.YtkgplompdnjodaaC20E
import Derived.Test.YtkgplompdnjodaaC20W
import Derived.Test.YtkgplompdnjodaaRows
namespace Go.Fr.C20
open Go Go.Fr Go.Proofs
theorem s26 : CallSpec Try.prog noGl 26 cBlank := fn_spec tab_ok mixed ct_nil il_nil Try.func26 (by kernel_rfl) (vcEq26 ▸ p26)
theorem s27 : CallSpec Try.prog noGl 27 cBlank := fn_spec tab_ok mixed ct_nil il_nil Try.func27 (by kernel_rfl) (vcEq27 ▸ p27)
theorem s17 : CallSpec Try.prog noGl 17 cWidth := fn_spec tab_ok mixed ct_nil il_nil Try.func17 (by kernel_rfl) (vcEq17 ▸ p17)
theorem s21 : CallSpec Try.prog noGl 21 cWidth := fn_spec tab_ok mixed ct_nil il_nil Try.func21 (by kernel_rfl) (vcEq21 ▸ p21)
theorem s32 : CallSpec Try.prog noGl 32 cBoundary := fn_spec tab_ok mixed (ct_cons s27 ct_nil) il_nil Try.func32 (by kernel_rfl) (vcEq32 ▸ p32)
theorem s37 : CallSpec Try.prog noGl 37 cBoundary := fn_spec tab_ok mixed (ct_cons s26 ct_nil) il_nil Try.func37 (by kernel_rfl) (vcEq37 ▸ p37)
theorem s36 : CallSpec Try.prog noGl 36 cFit := fn_spec tab_ok mixed ct_nil il_nil Try.func36 (by kernel_rfl) (vcEq36 ▸ p36)
theorem s31 : CallSpec Try.prog noGl 31 cFit := fn_spec tab_ok mixed (ct_cons s17 ct_nil) il_nil Try.func31 (by kernel_rfl) (vcEq31 ▸ p31)
theorem s35 : CallSpec Try.prog noGl 35 cTakes := fn_spec tab_ok mixed (ct_cons s36 (ct_cons s37 ct_nil)) il_nil Try.func35 (by kernel_rfl) (vcEq35 ▸ p35)
theorem s29 : CallSpec Try.prog noGl 29 cTakes := fn_spec tab_ok mixed (ct_cons s31 (ct_cons s32 ct_nil)) il_nil Try.func29 (by kernel_rfl) (vcEq29 ▸ p29)
theorem s22 : CallSpec Try.prog noGl 22 cIndent := fn_spec tab_ok mixed (ct_cons s26 ct_nil) il_nil Try.func22 (by kernel_rfl) (vcEq22 ▸ p22)
theorem s23 : CallSpec Try.prog noGl 23 cIndent := fn_spec tab_ok mixed (ct_cons s27 (ct_cons s17 ct_nil)) il_nil Try.func23 (by kernel_rfl) (vcEq23 ▸ p23)
theorem s34 : CallSpec Try.prog noGl 34 cStart := fn_spec tab_ok mixed (ct_cons s35 (ct_cons s26 (ct_cons s36 ct_nil))) il_nil Try.func34 (by kernel_rfl) (vcEq34 ▸ p34)
theorem s25 : CallSpec Try.prog noGl 25 cAll := s25_of s35 s34
theorem s28 : CallSpec Try.prog noGl 28 cStart := fn_spec tab_ok mixed (ct_cons s29 (ct_cons s27 (ct_cons s31 ct_nil))) il_nil Try.func28 (by kernel_rfl) (vcEq28 ▸ p28)
theorem s24 : CallSpec Try.prog noGl 24 cRAll := fn_spec tab_ok mixed (ct_cons s28 (ct_cons s29 ct_nil)) il_nil Try.func24 (by kernel_rfl) (vcEq24 ▸ p24)
theorem s8 : CallSpec Try.prog noGl 8 cRight := fn_spec tab_ok mixed ct_nil il_nil Try.func8 (by kernel_rfl) (vcEq8 ▸ p8)
theorem s18 : CallSpec Try.prog noGl 18 cWRight := fn_spec tab_ok mixed ct_nil il_nil Try.func18 (by kernel_rfl) (vcEq18 ▸ p18)
theorem s14 : CallSpec Try.prog noGl 14 cWRight := fn_spec tab_ok mixed ct_nil il_nil Try.func14 (by kernel_rfl) (vcEq14 ▸ p14)
theorem s12 : CallSpec Try.prog noGl 12 cHang := fn_spec tab_ok mixed (ct_cons s22 (ct_cons s18 ct_nil)) il_nil Try.func12 (by kernel_rfl) (vcEq12 ▸ p12)
theorem s13 : CallSpec Try.prog noGl 13 cHang := fn_spec tab_ok mixed (ct_cons s23 (ct_cons s14 ct_nil)) il_nil Try.func13 (by kernel_rfl) (vcEq13 ▸ p13)
theorem s19 : CallSpec Try.prog noGl 19 cWTakes := fn_spec tab_ok mixed (ct_cons s12 (ct_cons s25 ct_nil)) il_nil Try.func19 (by kernel_rfl) (vcEq19 ▸ p19)
theorem s20 : CallSpec Try.prog noGl 20 cBehind := fn_spec tab_ok mixed ct_nil il_nil Try.func20 (by kernel_rfl) (vcEq20 ▸ p20)
theorem s10 : CallSpec Try.prog noGl 10 cRows := fn_spec tab_ok mixed (ct_cons s18 (ct_cons s12 (ct_cons s19 (ct_cons s20 ct_nil)))) il_nil Try.func10 (by kernel_rfl) (vcEq10 ▸ p10)
theorem s11 : CallSpec Try.prog noGl 11 cCount := fn_spec tab_ok mixed (ct_cons s10 (ct_cons s21 ct_nil)) il_nil Try.func11 (by kernel_rfl) (vcEq11 ▸ p11)
theorem s15 : CallSpec Try.prog noGl 15 cRRows := fn_spec tab_ok mixed (ct_cons s13 (ct_cons s24 ct_nil)) il_nil Try.func15 (by kernel_rfl) (vcEq15 ▸ p15)
theorem s16 : CallSpec Try.prog noGl 16 cCells := fn_spec tab_ok mixed ct_nil il_nil Try.func16 (by kernel_rfl) (vcEq16 ▸ p16)
theorem s9 : CallSpec Try.prog noGl 9 cHangs := fn_spec tab_ok mixed (ct_cons s10 (ct_cons s11 (ct_cons s12 ct_nil))) il_nil Try.func9 (by kernel_rfl) (vcEq9 ▸ p9)
theorem s3 : CallSpec Try.prog noGl 3 cWrapRows := fn_spec tab_ok mixed (ct_cons s8 (ct_cons s9 (ct_cons s10 (ct_cons s11 (ct_cons s12 (ct_cons s13 (ct_cons s14 (ct_cons s15 (ct_cons s16 (ct_cons s17 ct_nil)))))))))) il_nil Try.func3 (by kernel_rfl) (vcEq3 ▸ p3)
theorem s4 : CallSpec Try.prog noGl 4 cWrapWide := fn_spec tab_ok mixed (ct_cons s8 (ct_cons s9 (ct_cons s10 (ct_cons s17 ct_nil)))) il_nil Try.func4 (by kernel_rfl) (vcEq4 ▸ p4)
theorem s5 : CallSpec Try.prog noGl 5 cWrapKeeps := fn_spec tab_ok mixed (ct_cons s8 (ct_cons s14 (ct_cons s9 (ct_cons s10 (ct_cons s16 ct_nil))))) il_nil Try.func5 (by kernel_rfl) (vcEq5 ▸ p5)
theorem s6 : CallSpec Try.prog noGl 6 cWrapHangs := fn_spec tab_ok mixed (ct_cons s8 (ct_cons s14 (ct_cons s9 (ct_cons s10 (ct_cons s12 ct_nil))))) il_nil Try.func6 (by kernel_rfl) (vcEq6 ▸ p6)
theorem s7 : CallSpec Try.prog noGl 7 cWrapOne := fn_spec tab_ok mixed (ct_cons s8 (ct_cons s9 (ct_cons s10 (ct_cons s16 (ct_cons s17 ct_nil))))) il_nil Try.func7 (by kernel_rfl) (vcEq7 ▸ p7)
end Go.Fr.C20
namespace Go.Proofs.Ytkgplompdnjodaa
open Go Go.Fr Go.Fr.C20 Go.ChangeShapes Go.WideShapes Go.ChangeAt Go.RowKit
theorem own : ownKnob Try.prog.godebug = none := by kernel_rfl
theorem laidOut : laidOutB Try.prog = true := by kernel_rfl
set_option maxRecDepth 100000 in
theorem wrapRowsLifted (os : Os) (started : os.Started) (H : Type) (enc : TypeId × Value → H) :
    ReturnsInHanded {} Try.checked os 3 .any (Rows.wrapRowsSpec.pre6 enc Try.prog Try.f3 Rows.wrapRowsRow.domain false) (Rows.wrapRowsSpec.post enc Try.prog Try.f3 false true false false) :=
  law_lifted (C := Try.checked) (tb := 4) own started (by kernel_rfl) Try.func3
    (ChangeSpec.witness6 (enc := enc) (C := Try.checked) false ⟨#[], #[.slice none 0 0, .int .i64 0], []⟩ 8 (by kernel_rfl) (by kernel_rfl) (by kernel_rfl) (by kernel_rfl))
    (by kernel_rfl) laidOut rfl rfl (fun ds h => by
      match ds, h with
      | [d1, d2], _ => rfl) s3 (fun y h => h.1.1)
theorem wrapRowsOver : Rows.wrapRowsRow.holds Try.pinned (OpenSpec.ofChange Rows.wrapRowsSpec) :=
  OpenClaim.holds_of_wide 3 Try.f3 rfl rfl rfl rfl rfl rfl rfl ⟨rfl, rfl, rfl, rfl, rfl⟩ rfl rfl rfl rfl rfl (by kernel_rfl) Try.func3 (by kernel_rfl)
    (of_decide_eq_true (by kernel_rfl)) (by unfold Func.isWrapper; first | (rw [if_pos (by decide +kernel)]; kernel_rfl) | (rw [if_neg (by decide +kernel)]; exact ⟨rfl, rfl⟩))
    (fun os started H enc _ => wrapRowsLifted os started H enc)
theorem wrapRowsProved : Rows.WrapRowsSaid := wrapRowsOver
#print axioms wrapRowsProved
set_option maxRecDepth 100000 in
theorem wrapWideLifted (os : Os) (started : os.Started) (H : Type) (enc : TypeId × Value → H) :
    ReturnsInHanded {} Try.checked os 4 .any (Rows.wrapWideSpec.pre6 enc Try.prog Try.f4 Rows.wrapWideRow.domain false) (Rows.wrapWideSpec.post enc Try.prog Try.f4 false true false false) :=
  law_lifted (C := Try.checked) (tb := 4) own started (by kernel_rfl) Try.func4
    (ChangeSpec.witness6 (enc := enc) (C := Try.checked) false ⟨#[], #[.slice none 0 0, .int .i64 0], []⟩ 8 (by kernel_rfl) (by kernel_rfl) (by kernel_rfl) (by kernel_rfl))
    (by kernel_rfl) laidOut rfl rfl (fun ds h => by
      match ds, h with
      | [d1, d2], _ => rfl) s4 (fun y h => h.1.1)
theorem wrapWideOver : Rows.wrapWideRow.holds Try.pinned (OpenSpec.ofChange Rows.wrapWideSpec) :=
  OpenClaim.holds_of_wide 4 Try.f4 rfl rfl rfl rfl rfl rfl rfl ⟨rfl, rfl, rfl, rfl, rfl⟩ rfl rfl rfl rfl rfl (by kernel_rfl) Try.func4 (by kernel_rfl)
    (of_decide_eq_true (by kernel_rfl)) (by unfold Func.isWrapper; first | (rw [if_pos (by decide +kernel)]; kernel_rfl) | (rw [if_neg (by decide +kernel)]; exact ⟨rfl, rfl⟩))
    (fun os started H enc _ => wrapWideLifted os started H enc)
theorem wrapWideProved : Rows.WrapWideSaid := wrapWideOver
#print axioms wrapWideProved
set_option maxRecDepth 100000 in
theorem wrapKeepsLifted (os : Os) (started : os.Started) (H : Type) (enc : TypeId × Value → H) :
    ReturnsInHanded {} Try.checked os 5 .any (Rows.wrapKeepsSpec.pre6 enc Try.prog Try.f5 Rows.wrapKeepsRow.domain false) (Rows.wrapKeepsSpec.post enc Try.prog Try.f5 false true false false) :=
  law_lifted (C := Try.checked) (tb := 4) own started (by kernel_rfl) Try.func5
    (ChangeSpec.witness6 (enc := enc) (C := Try.checked) false ⟨#[], #[.slice none 0 0, .int .i64 0], []⟩ 8 (by kernel_rfl) (by kernel_rfl) (by kernel_rfl) (by kernel_rfl))
    (by kernel_rfl) laidOut rfl rfl (fun ds h => by
      match ds, h with
      | [d1, d2], _ => rfl) s5 (fun y h => h.1.1)
theorem wrapKeepsOver : Rows.wrapKeepsRow.holds Try.pinned (OpenSpec.ofChange Rows.wrapKeepsSpec) :=
  OpenClaim.holds_of_wide 5 Try.f5 rfl rfl rfl rfl rfl rfl rfl ⟨rfl, rfl, rfl, rfl, rfl⟩ rfl rfl rfl rfl rfl (by kernel_rfl) Try.func5 (by kernel_rfl)
    (of_decide_eq_true (by kernel_rfl)) (by unfold Func.isWrapper; first | (rw [if_pos (by decide +kernel)]; kernel_rfl) | (rw [if_neg (by decide +kernel)]; exact ⟨rfl, rfl⟩))
    (fun os started H enc _ => wrapKeepsLifted os started H enc)
theorem wrapKeepsProved : Rows.WrapKeepsSaid := wrapKeepsOver
#print axioms wrapKeepsProved
set_option maxRecDepth 100000 in
theorem wrapHangsLifted (os : Os) (started : os.Started) (H : Type) (enc : TypeId × Value → H) :
    ReturnsInHanded {} Try.checked os 6 .any (Rows.wrapHangsSpec.pre6 enc Try.prog Try.f6 Rows.wrapHangsRow.domain false) (Rows.wrapHangsSpec.post enc Try.prog Try.f6 false true false false) :=
  law_lifted (C := Try.checked) (tb := 4) own started (by kernel_rfl) Try.func6
    (ChangeSpec.witness6 (enc := enc) (C := Try.checked) false ⟨#[], #[.slice none 0 0, .int .i64 0], []⟩ 8 (by kernel_rfl) (by kernel_rfl) (by kernel_rfl) (by kernel_rfl))
    (by kernel_rfl) laidOut rfl rfl (fun ds h => by
      match ds, h with
      | [d1, d2], _ => rfl) s6 (fun y h => h.1.1)
theorem wrapHangsOver : Rows.wrapHangsRow.holds Try.pinned (OpenSpec.ofChange Rows.wrapHangsSpec) :=
  OpenClaim.holds_of_wide 6 Try.f6 rfl rfl rfl rfl rfl rfl rfl ⟨rfl, rfl, rfl, rfl, rfl⟩ rfl rfl rfl rfl rfl (by kernel_rfl) Try.func6 (by kernel_rfl)
    (of_decide_eq_true (by kernel_rfl)) (by unfold Func.isWrapper; first | (rw [if_pos (by decide +kernel)]; kernel_rfl) | (rw [if_neg (by decide +kernel)]; exact ⟨rfl, rfl⟩))
    (fun os started H enc _ => wrapHangsLifted os started H enc)
theorem wrapHangsProved : Rows.WrapHangsSaid := wrapHangsOver
#print axioms wrapHangsProved
set_option maxRecDepth 100000 in
theorem wrapOneLifted (os : Os) (started : os.Started) (H : Type) (enc : TypeId × Value → H) :
    ReturnsInHanded {} Try.checked os 7 .any (Rows.wrapOneSpec.pre6 enc Try.prog Try.f7 Rows.wrapOneRow.domain false) (Rows.wrapOneSpec.post enc Try.prog Try.f7 false true false false) :=
  law_lifted (C := Try.checked) (tb := 4) own started (by kernel_rfl) Try.func7
    (ChangeSpec.witness6 (enc := enc) (C := Try.checked) false ⟨#[], #[.slice none 0 0], []⟩ 8 (by kernel_rfl) (by kernel_rfl) (by kernel_rfl) (by kernel_rfl))
    (by kernel_rfl) laidOut rfl rfl (fun ds h => by
      match ds, h with
      | [d1], _ => rfl) s7 (fun y h => h.1.1)
theorem wrapOneOver : Rows.wrapOneRow.holds Try.pinned (OpenSpec.ofChange Rows.wrapOneSpec) :=
  OpenClaim.holds_of_wide 7 Try.f7 rfl rfl rfl rfl rfl rfl rfl ⟨rfl, rfl, rfl, rfl, rfl⟩ rfl rfl rfl rfl rfl (by kernel_rfl) Try.func7 (by kernel_rfl)
    (of_decide_eq_true (by kernel_rfl)) (by unfold Func.isWrapper; first | (rw [if_pos (by decide +kernel)]; kernel_rfl) | (rw [if_neg (by decide +kernel)]; exact ⟨rfl, rfl⟩))
    (fun os started H enc _ => wrapOneLifted os started H enc)
theorem wrapOneProved : Rows.WrapOneSaid := wrapOneOver
#print axioms wrapOneProved
end Go.Proofs.Ytkgplompdnjodaa
