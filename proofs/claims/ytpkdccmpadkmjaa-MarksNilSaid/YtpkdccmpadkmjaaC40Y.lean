/-
  Chapter C40: contracts of functions; rows of laws. Conditions: none.
-/
import Derived.Test.YtpkdccmpadkmjaaC40G
import Derived.Test.YtpkdccmpadkmjaaC40S
import Derived.Test.YtpkdccmpadkmjaaRows
namespace Go.Fr.C40
open Go Go.Fr Go.Proofs
theorem s40 : CallSpec Try.prog noGl 40 cSize := fn_spec tab_ok mixed ct_nil il_nil Try.func40 (by kernel_rfl) (vcEq40 ▸ p40)
theorem s39 : CallSpec Try.prog noGl 39 cWithin := fn_spec tab_ok mixed ct_nil il_nil Try.func39 (by kernel_rfl) (vcEq39 ▸ p39)
theorem s42 : CallSpec Try.prog noGl 42 cWithin := fn_spec tab_ok mixed ct_nil il_nil Try.func42 (by kernel_rfl) (vcEq42 ▸ p42)
theorem s31 : CallSpec Try.prog noGl 31 cDelta := fn_spec tab_ok mixed (ct_cons s40 ct_nil) il_nil Try.func31 (by kernel_rfl) (vcEq31 ▸ p31)
theorem s30 : CallSpec Try.prog noGl 30 cNormal := fn_spec tab_ok mixed (ct_cons s39 (ct_cons s40 ct_nil)) il_nil Try.func30 (by kernel_rfl) (vcEq30 ▸ p30)
theorem s35 : CallSpec Try.prog noGl 35 cRefNormal := fn_spec tab_ok mixed (ct_cons s42 ct_nil) il_nil Try.func35 (by kernel_rfl) (vcEq35 ▸ p35)
theorem s22 : CallSpec Try.prog noGl 22 cChanges := fn_spec tab_ok mixed ct_nil il_nil Try.func22 (by kernel_rfl) (vcEq22 ▸ p22)
theorem s36 : CallSpec Try.prog noGl 36 cRefMap := fn_spec tab_ok mixed ct_nil il_nil Try.func36 (by kernel_rfl) (vcEq36 ▸ p36)
theorem s32 : CallSpec Try.prog noGl 32 cMap := fn_spec tab_ok mixed (ct_cons s30 ct_nil) il_nil Try.func32 (by kernel_rfl) (vcEq32 ▸ p32)
theorem s24 : CallSpec Try.prog noGl 24 cClone := fn_spec tab_ok mixed ct_nil il_nil Try.func24 (by kernel_rfl) (vcEq24 ▸ p24)
theorem s23 : CallSpec Try.prog noGl 23 cAll := fn_spec tab_ok mixed (ct_cons s24 ct_nil) il_nil Try.func23 (by kernel_rfl) (vcEq23 ▸ p23)
theorem sO23 : CallSpec Try.prog noGl 23 cAllO := fn_specO tab_ok mixed ct_nil (il_cons Try.func24 (by kernel_rfl) il_nil) rct_nil Try.func23 (by kernel_rfl) (vcEqO23 ▸ pO23)
theorem s9 : CallSpec Try.prog noGl 9 cNew := fn_spec tab_ok mixed (ct_cons s24 ct_nil) il_nil Try.func9 (by kernel_rfl) (vcEq9 ▸ p9)
theorem s10 : CallSpec Try.prog noGl 10 cRefNew := fn_spec tab_ok mixed ct_nil il_nil Try.func10 (by kernel_rfl) (vcEq10 ▸ p10)
theorem s11 : CallSpec Try.prog noGl 11 cRefs := fn_spec tab_ok mixed ct_nil il_nil Try.func11 (by kernel_rfl) (vcEq11 ▸ p11)
theorem s16 : CallSpec Try.prog noGl 16 cInts := fn_spec tab_ok mixed ct_nil il_nil Try.func16 (by kernel_rfl) (vcEq16 ▸ p16)
theorem s12 : CallSpec Try.prog noGl 12 cIs := fn_spec tab_ok mixed (ct_cons s23 (ct_cons s11 ct_nil)) il_nil Try.func12 (by kernel_rfl) (vcEq12 ▸ p12)
theorem s14 : CallSpec Try.prog noGl 14 cRefAt := fn_spec tab_ok mixed ct_nil il_nil Try.func14 (by kernel_rfl) (vcEq14 ▸ p14)
theorem s13 : CallSpec Try.prog noGl 13 cAt := fn_spec tab_ok mixed (ct_cons s23 ct_nil) il_nil Try.func13 (by kernel_rfl) (vcEq13 ▸ p13)
theorem r33 : RSpec Try.prog 33 rDel := fn_specRow tab_ok mixed ct_nil (il_cons Try.func41 (by kernel_rfl) (il_cons Try.func34 (by kernel_rfl) il_nil)) rct_nil Try.func33 (by kernel_rfl) (vcEq33 ▸ p33)
theorem s15 : CallSpec Try.prog noGl 15 cEdges := fn_specR tab_ok mixed (ct_cons s23 (ct_cons s13 ct_nil)) il_nil (rct_cons r25 (rct_cons r26 rct_nil)) Try.func15 (by kernel_rfl) (vcEq15 ▸ p15)
theorem s17 : CallSpec Try.prog noGl 17 cRefEdges := fn_spec tab_ok mixed (ct_cons s14 ct_nil) il_nil Try.func17 (by kernel_rfl) (vcEq17 ▸ p17)
theorem s18 : CallSpec Try.prog noGl 18 cPaint := fn_spec tab_ok mixed (ct_cons s13 ct_nil) (il_cons Try.func28 (by kernel_rfl) (il_cons Try.func27 (by kernel_rfl) il_nil)) Try.func18 (by kernel_rfl) (vcEq18 ▸ p18)
theorem s29 : CallSpec Try.prog noGl 29 cRefStyles := fn_spec tab_ok mixed (ct_cons s14 ct_nil) il_nil Try.func29 (by kernel_rfl) (vcEq29 ▸ p29)
theorem s19 : CallSpec Try.prog noGl 19 cRefPaint := fn_spec tab_ok mixed (ct_cons s29 ct_nil) il_nil Try.func19 (by kernel_rfl) (vcEq19 ▸ p19)
theorem s20 : CallSpec Try.prog noGl 20 cShift := fn_specR tab_ok mixed (ct_cons s30 (ct_cons s31 (ct_cons sO23 (ct_cons s32 (ct_cons s9 ct_nil))))) (il_cons Try.func34 (by kernel_rfl) il_nil) (rct_cons r33 rct_nil) Try.func20 (by kernel_rfl) (vcEq20 ▸ p20)
theorem s21 : CallSpec Try.prog noGl 21 cRefShift := fn_spec tab_ok mixed (ct_cons s35 (ct_cons s36 (ct_cons s10 ct_nil))) il_nil Try.func21 (by kernel_rfl) (vcEq21 ▸ p21)
theorem s8 : CallSpec Try.prog noGl 8 cThree := fn_spec tab_ok mixed (ct_cons s9 (ct_cons s15 (ct_cons s16 (ct_cons s13 ct_nil)))) il_nil Try.func8 (by kernel_rfl) (vcEq8 ▸ p8)
theorem s3 : CallSpec Try.prog noGl 3 cMarksNew := fn_spec tab_ok mixed (ct_cons s8 (ct_cons s9 (ct_cons s11 (ct_cons s10 (ct_cons s12 (ct_cons s13 (ct_cons s14 ct_nil))))))) il_nil Try.func3 (by kernel_rfl) (vcEq3 ▸ p3)
theorem s4 : CallSpec Try.prog noGl 4 cMarksEdges := fn_spec tab_ok mixed (ct_cons s8 (ct_cons s9 (ct_cons s11 (ct_cons s10 (ct_cons s12 (ct_cons s15 (ct_cons s13 (ct_cons s17 (ct_cons s16 ct_nil))))))))) il_nil Try.func4 (by kernel_rfl) (vcEq4 ▸ p4)
theorem s5 : CallSpec Try.prog noGl 5 cMarksPaint := fn_spec tab_ok mixed (ct_cons s8 (ct_cons s9 (ct_cons s11 (ct_cons s10 (ct_cons s12 (ct_cons s18 (ct_cons s19 ct_nil))))))) il_nil Try.func5 (by kernel_rfl) (vcEq5 ▸ p5)
theorem s6 : CallSpec Try.prog noGl 6 cMarksShift := fn_spec tab_ok mixed (ct_cons s8 (ct_cons s9 (ct_cons s11 (ct_cons s10 (ct_cons s12 (ct_cons s20 (ct_cons s22 (ct_cons s21 ct_nil)))))))) il_nil Try.func6 (by kernel_rfl) (vcEq6 ▸ p6)
theorem s7 : CallSpec Try.prog noGl 7 cMarksNil := fn_spec tab_ok mixed (ct_cons s8 (ct_cons s20 (ct_cons s18 (ct_cons s13 (ct_cons s23 (ct_cons s15 ct_nil)))))) il_nil Try.func7 (by kernel_rfl) (vcEq7 ▸ p7)
end Go.Fr.C40
namespace Go.Proofs.Ytpkdccmpadkmjaa
open Go Go.Fr Go.Fr.C40 Go.ChangeShapes Go.WideShapes Go.ChangeAt Go.RowKit
theorem own : ownKnob Try.prog.godebug = none := by kernel_rfl
theorem laidOut : laidOutB Try.prog = true := by kernel_rfl
set_option maxRecDepth 100000 in
theorem marksNewLifted (os : Os) (started : os.Started) (H : Type) (enc : TypeId × Value → H) :
    ReturnsInHanded {} Try.checked os 3 .any (Rows.marksNewSpec.pre6 enc Try.prog Try.f3 Rows.marksNewRow.domain false) (Rows.marksNewSpec.post enc Try.prog Try.f3 false true false false) :=
  law_lifted (C := Try.checked) (tb := 4) own started (by kernel_rfl) Try.func3
    (ChangeSpec.witness6 (enc := enc) (C := Try.checked) false ⟨#[], #[.int .i64 0, .slice none 0 0, .int .i64 0], []⟩ 8 (by kernel_rfl) (by kernel_rfl) (by kernel_rfl) (by kernel_rfl))
    (by kernel_rfl) laidOut rfl rfl (fun ds h => by
      match ds, h with
      | [d1, d2, d3], _ => rfl) s3 (fun y h => h.2.1.1)
theorem marksNewOver : Rows.marksNewRow.holds Try.pinned (OpenSpec.ofChange Rows.marksNewSpec) :=
  OpenClaim.holds_of_wide 3 Try.f3 rfl rfl rfl rfl rfl rfl rfl ⟨rfl, rfl, rfl, rfl, rfl⟩ rfl rfl rfl rfl rfl (by kernel_rfl) Try.func3 (by kernel_rfl)
    (of_decide_eq_true (by kernel_rfl)) (by unfold Func.isWrapper; first | (rw [if_pos (by decide +kernel)]; kernel_rfl) | (rw [if_neg (by decide +kernel)]; exact ⟨rfl, rfl⟩))
    (fun os started H enc _ => marksNewLifted os started H enc)
theorem marksNewProved : Rows.MarksNewSaid := marksNewOver
#print axioms marksNewProved
set_option maxRecDepth 100000 in
theorem marksEdgesLifted (os : Os) (started : os.Started) (H : Type) (enc : TypeId × Value → H) :
    ReturnsInHanded {} Try.checked os 4 .any (Rows.marksEdgesSpec.pre6 enc Try.prog Try.f4 Rows.marksEdgesRow.domain false) (Rows.marksEdgesSpec.post enc Try.prog Try.f4 false true false false) :=
  law_lifted (C := Try.checked) (tb := 4) own started (by kernel_rfl) Try.func4
    (ChangeSpec.witness6 (enc := enc) (C := Try.checked) false ⟨#[], #[.int .i64 0, .slice none 0 0], []⟩ 8 (by kernel_rfl) (by kernel_rfl) (by kernel_rfl) (by kernel_rfl))
    (by kernel_rfl) laidOut rfl rfl (fun ds h => by
      match ds, h with
      | [d1, d2], _ => rfl) s4 (fun y h => h.2.1.1)
theorem marksEdgesOver : Rows.marksEdgesRow.holds Try.pinned (OpenSpec.ofChange Rows.marksEdgesSpec) :=
  OpenClaim.holds_of_wide 4 Try.f4 rfl rfl rfl rfl rfl rfl rfl ⟨rfl, rfl, rfl, rfl, rfl⟩ rfl rfl rfl rfl rfl (by kernel_rfl) Try.func4 (by kernel_rfl)
    (of_decide_eq_true (by kernel_rfl)) (by unfold Func.isWrapper; first | (rw [if_pos (by decide +kernel)]; kernel_rfl) | (rw [if_neg (by decide +kernel)]; exact ⟨rfl, rfl⟩))
    (fun os started H enc _ => marksEdgesLifted os started H enc)
theorem marksEdgesProved : Rows.MarksEdgesSaid := marksEdgesOver
#print axioms marksEdgesProved
set_option maxRecDepth 100000 in
theorem marksPaintLifted (os : Os) (started : os.Started) (H : Type) (enc : TypeId × Value → H) :
    ReturnsInHanded {} Try.checked os 5 .any (Rows.marksPaintSpec.pre6 enc Try.prog Try.f5 Rows.marksPaintRow.domain false) (Rows.marksPaintSpec.post enc Try.prog Try.f5 false true false false) :=
  law_lifted (C := Try.checked) (tb := 4) own started (by kernel_rfl) Try.func5
    (ChangeSpec.witness6 (enc := enc) (C := Try.checked) false ⟨#[], #[.int .i64 0, .slice none 0 0, .agg #[.slice none 0 0, .int .i64 0, .int .i64 0, .int .i64 0, .bool false, .bool false, .int .i64 0]], []⟩ 8 (by kernel_rfl) (by kernel_rfl) (by kernel_rfl) (by kernel_rfl))
    (by kernel_rfl) laidOut rfl rfl (fun ds h => by
      match ds, h with
      | [d1, d2, d3], _ => rfl) s5 (fun y h => ⟨h.2.1.1, h.2.2.1.1.1⟩)
theorem marksPaintOver : Rows.marksPaintRow.holds Try.pinned (OpenSpec.ofChange Rows.marksPaintSpec) :=
  OpenClaim.holds_of_wide 5 Try.f5 rfl rfl rfl rfl rfl rfl rfl ⟨rfl, rfl, rfl, rfl, rfl⟩ rfl rfl rfl rfl rfl (by kernel_rfl) Try.func5 (by kernel_rfl)
    (of_decide_eq_true (by kernel_rfl)) (by unfold Func.isWrapper; first | (rw [if_pos (by decide +kernel)]; kernel_rfl) | (rw [if_neg (by decide +kernel)]; exact ⟨rfl, rfl⟩))
    (fun os started H enc _ => marksPaintLifted os started H enc)
theorem marksPaintProved : Rows.MarksPaintSaid := marksPaintOver
#print axioms marksPaintProved
set_option maxRecDepth 100000 in
theorem marksShiftLifted (os : Os) (started : os.Started) (H : Type) (enc : TypeId × Value → H) :
    ReturnsInHanded {} Try.checked os 6 .any (Rows.marksShiftSpec.pre6 enc Try.prog Try.f6 Rows.marksShiftRow.domain false) (Rows.marksShiftSpec.post enc Try.prog Try.f6 false true false false) :=
  law_lifted (C := Try.checked) (tb := 4) own started (by kernel_rfl) Try.func6
    (ChangeSpec.witness6 (enc := enc) (C := Try.checked) false ⟨#[], #[.int .i64 0, .slice none 0 0, .slice none 0 0], []⟩ 8 (by kernel_rfl) (by kernel_rfl) (by kernel_rfl) (by kernel_rfl))
    (by kernel_rfl) laidOut rfl rfl (fun ds h => by
      match ds, h with
      | [d1, d2, d3], _ => rfl) s6 (fun y h => ⟨h.2.1.1, h.2.2.1.1⟩)
theorem marksShiftOver : Rows.marksShiftRow.holds Try.pinned (OpenSpec.ofChange Rows.marksShiftSpec) :=
  OpenClaim.holds_of_wide 6 Try.f6 rfl rfl rfl rfl rfl rfl rfl ⟨rfl, rfl, rfl, rfl, rfl⟩ rfl rfl rfl rfl rfl (by kernel_rfl) Try.func6 (by kernel_rfl)
    (of_decide_eq_true (by kernel_rfl)) (by unfold Func.isWrapper; first | (rw [if_pos (by decide +kernel)]; kernel_rfl) | (rw [if_neg (by decide +kernel)]; exact ⟨rfl, rfl⟩))
    (fun os started H enc _ => marksShiftLifted os started H enc)
theorem marksShiftProved : Rows.MarksShiftSaid := marksShiftOver
#print axioms marksShiftProved
set_option maxRecDepth 100000 in
theorem marksNilLifted (os : Os) (started : os.Started) (H : Type) (enc : TypeId × Value → H) :
    ReturnsInHanded {} Try.checked os 7 .any (Rows.marksNilSpec.pre6 enc Try.prog Try.f7 Rows.marksNilRow.domain false) (Rows.marksNilSpec.post enc Try.prog Try.f7 false true false false) :=
  law_lifted (C := Try.checked) (tb := 4) own started (by kernel_rfl) Try.func7
    (ChangeSpec.witness6 (enc := enc) (C := Try.checked) false ⟨#[], #[.int .i64 0, .agg #[.slice none 0 0, .int .i64 0, .int .i64 0, .int .i64 0, .bool false, .bool false, .int .i64 0]], []⟩ 8 (by kernel_rfl) (by kernel_rfl) (by kernel_rfl) (by kernel_rfl))
    (by kernel_rfl) laidOut rfl rfl (fun ds h => by
      match ds, h with
      | [d1, d2], _ => rfl) s7 (fun y h => h.2.1.1.1)
theorem marksNilOver : Rows.marksNilRow.holds Try.pinned (OpenSpec.ofChange Rows.marksNilSpec) :=
  OpenClaim.holds_of_wide 7 Try.f7 rfl rfl rfl rfl rfl rfl rfl ⟨rfl, rfl, rfl, rfl, rfl⟩ rfl rfl rfl rfl rfl (by kernel_rfl) Try.func7 (by kernel_rfl)
    (of_decide_eq_true (by kernel_rfl)) (by unfold Func.isWrapper; first | (rw [if_pos (by decide +kernel)]; kernel_rfl) | (rw [if_neg (by decide +kernel)]; exact ⟨rfl, rfl⟩))
    (fun os started H enc _ => marksNilLifted os started H enc)
theorem marksNilProved : Rows.MarksNilSaid := marksNilOver
#print axioms marksNilProved
end Go.Proofs.Ytpkdccmpadkmjaa
