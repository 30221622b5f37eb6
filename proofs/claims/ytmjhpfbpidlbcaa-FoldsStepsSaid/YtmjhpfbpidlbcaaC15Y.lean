/-
  Chapter C15: contracts of functions; rows of laws. Conditions: none.
-/
import Derived.Test.YtmjhpfbpidlbcaaC15F
import Derived.Test.YtmjhpfbpidlbcaaRows
namespace Go.Fr.C15
open Go Go.Fr Go.Proofs
theorem s43 : CallSpec Try.prog noGl 43 cSize := fn_spec tab_ok mixed ct_nil il_nil Try.func43 (by kernel_rfl) (vcEq43 ▸ p43)
theorem s42 : CallSpec Try.prog noGl 42 cWithin := fn_spec tab_ok mixed ct_nil il_nil Try.func42 (by kernel_rfl) (vcEq42 ▸ p42)
theorem s45 : CallSpec Try.prog noGl 45 cWithin := fn_spec tab_ok mixed ct_nil il_nil Try.func45 (by kernel_rfl) (vcEq45 ▸ p45)
theorem s31 : CallSpec Try.prog noGl 31 cDelta := fn_spec tab_ok mixed (ct_cons s43 ct_nil) il_nil Try.func31 (by kernel_rfl) (vcEq31 ▸ p31)
theorem s30 : CallSpec Try.prog noGl 30 cNormal := fn_spec tab_ok mixed (ct_cons s42 (ct_cons s43 ct_nil)) il_nil Try.func30 (by kernel_rfl) (vcEq30 ▸ p30)
theorem s35 : CallSpec Try.prog noGl 35 cRefNormal := fn_spec tab_ok mixed (ct_cons s45 ct_nil) il_nil Try.func35 (by kernel_rfl) (vcEq35 ▸ p35)
theorem s22 : CallSpec Try.prog noGl 22 cChanges := fn_spec tab_ok mixed ct_nil il_nil Try.func22 (by kernel_rfl) (vcEq22 ▸ p22)
theorem s32 : CallSpec Try.prog noGl 32 cMap := fn_spec tab_ok mixed (ct_cons s30 ct_nil) il_nil Try.func32 (by kernel_rfl) (vcEq32 ▸ p32)
theorem s36 : CallSpec Try.prog noGl 36 cRefMap := fn_spec tab_ok mixed ct_nil il_nil Try.func36 (by kernel_rfl) (vcEq36 ▸ p36)
theorem s40 : CallSpec Try.prog noGl 40 cCmp := fn_spec tab_ok mixed ct_nil (il_cons Try.func56 (by kernel_rfl) il_nil) Try.func40 (by kernel_rfl) (vcEq40 ▸ p40)
theorem s39 : CallSpec Try.prog noGl 39 cOr := fn_spec tab_ok mixed ct_nil il_nil Try.func39 (by kernel_rfl) (vcEq39 ▸ p39)
theorem s28 : CallSpec Try.prog noGl 28 cOrder := fn_spec tab_ok mixed (ct_cons s40 (ct_cons s39 ct_nil)) il_nil Try.func28 (by kernel_rfl) (vcEq28 ▸ p28)
theorem s25 : CallSpec Try.prog noGl 25 cFits := fn_spec tab_ok mixed ct_nil il_nil Try.func25 (by kernel_rfl) (vcEq25 ▸ p25)
theorem s41 : CallSpec Try.prog noGl 41 cOverlap := fn_spec tab_ok mixed ct_nil il_nil Try.func41 (by kernel_rfl) (vcEq41 ▸ p41)
theorem s26 : CallSpec Try.prog noGl 26 cClone := fn_spec tab_ok mixed ct_nil il_nil Try.func26 (by kernel_rfl) (vcEq26 ▸ p26)
theorem sO26 : CallSpec Try.prog noGl 26 cCloneO := fn_specO tab_ok mixed ct_nil il_nil rct_nil Try.func26 (by kernel_rfl) (vcEqO26 ▸ pO26)
theorem sO16 : CallSpec Try.prog noGl 16 cAllO := fn_specO tab_ok mixed (ct_cons sO26 ct_nil) il_nil rct_nil Try.func16 (by kernel_rfl) (vcEqO16 ▸ pO16)
theorem s16 : CallSpec Try.prog noGl 16 cAll := fn_spec tab_ok mixed (ct_cons s26 ct_nil) il_nil Try.func16 (by kernel_rfl) (vcEq16 ▸ p16)
theorem s11 : CallSpec Try.prog noGl 11 cHidden := fn_spec tab_ok mixed (ct_cons s26 ct_nil) il_nil Try.func11 (by kernel_rfl) (vcEq11 ▸ p11)
theorem s23 : CallSpec Try.prog noGl 23 cLen := fn_spec tab_ok mixed ct_nil il_nil Try.func23 (by kernel_rfl) (vcEq23 ▸ p23)
theorem s24 : CallSpec Try.prog noGl 24 cSpans := fn_spec tab_ok mixed ct_nil il_nil Try.func24 (by kernel_rfl) (vcEq24 ▸ p24)
theorem s9 : CallSpec Try.prog noGl 9 cNew := fn_specR tab_ok mixed (ct_cons s25 (ct_cons sO26 (ct_cons s28 ct_nil))) il_nil (rct_cons (r27 s28) rct_nil) Try.func9 (by kernel_rfl) (vcEq9 ▸ p9)
theorem s10 : CallSpec Try.prog noGl 10 cRefNew := fn_spec tab_ok mixed ct_nil il_nil Try.func10 (by kernel_rfl) (vcEq10 ▸ p10)
theorem s13 : CallSpec Try.prog noGl 13 cOver := fn_spec tab_ok mixed (ct_cons s11 ct_nil) il_nil Try.func13 (by kernel_rfl) (vcEq13 ▸ p13)
theorem s29 : CallSpec Try.prog noGl 29 cRefHidden := fn_spec tab_ok mixed (ct_cons s41 ct_nil) il_nil Try.func29 (by kernel_rfl) (vcEq29 ▸ p29)
theorem s14 : CallSpec Try.prog noGl 14 cRefOver := fn_spec tab_ok mixed (ct_cons s29 ct_nil) il_nil Try.func14 (by kernel_rfl) (vcEq14 ▸ p14)
theorem s17 : CallSpec Try.prog noGl 17 cAdd := fn_spec tab_ok mixed (ct_cons s23 (ct_cons sO16 (ct_cons s9 ct_nil))) il_nil Try.func17 (by kernel_rfl) (vcEq17 ▸ p17)
theorem s18 : CallSpec Try.prog noGl 18 cRefAdd := fn_spec tab_ok mixed (ct_cons s10 ct_nil) il_nil Try.func18 (by kernel_rfl) (vcEq18 ▸ p18)
theorem s19 : CallSpec Try.prog noGl 19 cRemove := fn_spec tab_ok mixed (ct_cons s23 (ct_cons s25 (ct_cons sO16 (ct_cons s9 ct_nil)))) (il_cons Try.func34 (by kernel_rfl) (il_cons Try.func33 (by kernel_rfl) (il_cons Try.func44 (by kernel_rfl) il_nil))) Try.func19 (by kernel_rfl) (vcEq19 ▸ p19)
theorem s20 : CallSpec Try.prog noGl 20 cRefRemove := fn_spec tab_ok mixed (ct_cons s10 ct_nil) il_nil Try.func20 (by kernel_rfl) (vcEq20 ▸ p20)
theorem s15 : CallSpec Try.prog noGl 15 cShift := fn_spec tab_ok mixed (ct_cons s23 (ct_cons s30 (ct_cons s31 (ct_cons s16 (ct_cons s32 (ct_cons s9 ct_nil)))))) il_nil Try.func15 (by kernel_rfl) (vcEq15 ▸ p15)
theorem s21 : CallSpec Try.prog noGl 21 cRefShift := fn_spec tab_ok mixed (ct_cons s35 (ct_cons s36 (ct_cons s10 ct_nil))) il_nil Try.func21 (by kernel_rfl) (vcEq21 ▸ p21)
theorem s12 : CallSpec Try.prog noGl 12 cIs := fn_spec tab_ok mixed (ct_cons s16 (ct_cons s24 (ct_cons s23 (ct_cons s11 (ct_cons s29 ct_nil))))) il_nil Try.func12 (by kernel_rfl) (vcEq12 ▸ p12)
theorem s8 : CallSpec Try.prog noGl 8 cThree := fn_spec tab_ok mixed (ct_cons s9 (ct_cons s13 (ct_cons s11 (ct_cons s24 (ct_cons s23 ct_nil))))) il_nil Try.func8 (by kernel_rfl) (vcEq8 ▸ p8)
theorem s4 : CallSpec Try.prog noGl 4 cFoldsNew := fn_spec tab_ok mixed (ct_cons s8 (ct_cons s9 (ct_cons s10 (ct_cons s12 (ct_cons s13 (ct_cons s14 ct_nil)))))) il_nil Try.func4 (by kernel_rfl) (vcEq4 ▸ p4)
theorem s7 : CallSpec Try.prog noGl 7 cFoldsNil := fn_spec tab_ok mixed (ct_cons s19 (ct_cons s15 (ct_cons s17 (ct_cons s13 (ct_cons s23 (ct_cons s16 (ct_cons s11 (ct_cons s8 ct_nil)))))))) il_nil Try.func7 (by kernel_rfl) (vcEq7 ▸ p7)
end Go.Fr.C15
namespace Go.Proofs.Ytmjhpfbpidlbcaa
open Go Go.Fr Go.Fr.C15 Go.ChangeShapes Go.WideShapes Go.ChangeAt Go.RowKit
theorem own : ownKnob Try.prog.godebug = none := by kernel_rfl
theorem laidOut : laidOutB Try.prog = true := by kernel_rfl
set_option maxRecDepth 100000 in
theorem foldsNewLifted (os : Os) (started : os.Started) (H : Type) (enc : TypeId × Value → H) :
    ReturnsInHanded {} Try.checked os 4 .any (Rows.foldsNewSpec.pre6 enc Try.prog Try.f4 Rows.foldsNewRow.domain false) (Rows.foldsNewSpec.post enc Try.prog Try.f4 false true false false) :=
  law_lifted (C := Try.checked) (tb := 4) own started (by kernel_rfl) Try.func4
    (ChangeSpec.witness6 (enc := enc) (C := Try.checked) false ⟨#[], #[.int .i64 0, .slice none 0 0, .int .i64 0], []⟩ 8 (by kernel_rfl) (by kernel_rfl) (by kernel_rfl) (by kernel_rfl))
    (by kernel_rfl) laidOut rfl rfl (fun ds h => by
      match ds, h with
      | [d1, d2, d3], _ => rfl) s4 (fun y h => h.2.1.1)
theorem foldsNewOver : Rows.foldsNewRow.holds Try.pinned (OpenSpec.ofChange Rows.foldsNewSpec) :=
  OpenClaim.holds_of_wide 4 Try.f4 rfl rfl rfl rfl rfl rfl rfl ⟨rfl, rfl, rfl, rfl, rfl⟩ rfl rfl rfl rfl rfl (by kernel_rfl) Try.func4 (by kernel_rfl)
    (of_decide_eq_true (by kernel_rfl)) (by unfold Func.isWrapper; first | (rw [if_pos (by decide +kernel)]; kernel_rfl) | (rw [if_neg (by decide +kernel)]; exact ⟨rfl, rfl⟩))
    (fun os started H enc _ => foldsNewLifted os started H enc)
theorem foldsNewProved : Rows.FoldsNewSaid := foldsNewOver
#print axioms foldsNewProved
set_option maxRecDepth 100000 in
theorem foldsNilLifted (os : Os) (started : os.Started) (H : Type) (enc : TypeId × Value → H) :
    ReturnsInHanded {} Try.checked os 7 .any (Rows.foldsNilSpec.pre6 enc Try.prog Try.f7 Rows.foldsNilRow.domain false) (Rows.foldsNilSpec.post enc Try.prog Try.f7 false true false false) :=
  law_lifted (C := Try.checked) (tb := 4) own started (by kernel_rfl) Try.func7
    (ChangeSpec.witness6 (enc := enc) (C := Try.checked) false ⟨#[], #[.agg #[.int .i64 0, .int .i64 0]], []⟩ 8 (by kernel_rfl) (by kernel_rfl) (by kernel_rfl) (by kernel_rfl))
    (by kernel_rfl) laidOut rfl rfl (fun ds h => by
      match ds, h with
      | [d1], _ => rfl) s7 (fun _ _ => trivial)
theorem foldsNilOver : Rows.foldsNilRow.holds Try.pinned (OpenSpec.ofChange Rows.foldsNilSpec) :=
  OpenClaim.holds_of_wide 7 Try.f7 rfl rfl rfl rfl rfl rfl rfl ⟨rfl, rfl, rfl, rfl, rfl⟩ rfl rfl rfl rfl rfl (by kernel_rfl) Try.func7 (by kernel_rfl)
    (of_decide_eq_true (by kernel_rfl)) (by unfold Func.isWrapper; first | (rw [if_pos (by decide +kernel)]; kernel_rfl) | (rw [if_neg (by decide +kernel)]; exact ⟨rfl, rfl⟩))
    (fun os started H enc _ => foldsNilLifted os started H enc)
theorem foldsNilProved : Rows.FoldsNilSaid := foldsNilOver
#print axioms foldsNilProved
end Go.Proofs.Ytmjhpfbpidlbcaa
