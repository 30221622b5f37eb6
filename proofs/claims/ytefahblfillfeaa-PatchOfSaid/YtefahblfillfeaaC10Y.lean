/-
  Chapter C10: contracts of functions; rows of laws. Conditions: none.
-/
import Derived.Test.YtefahblfillfeaaC10P
import Derived.Test.YtefahblfillfeaaRows
namespace Go.Fr.C10
open Go Go.Fr Go.Proofs
theorem s26 : CallSpec Try.prog noGl 26 cWithin := fn_spec tab_ok mixed ct_nil il_nil Try.func26 (by kernel_rfl) (vcEq26 ▸ p26)
theorem s27 : CallSpec Try.prog noGl 27 cWithin := fn_spec tab_ok mixed ct_nil il_nil Try.func27 (by kernel_rfl) (vcEq27 ▸ p27)
theorem s28 : CallSpec Try.prog noGl 28 cSize := fn_spec tab_ok mixed ct_nil il_nil Try.func28 (by kernel_rfl) (vcEq28 ▸ p28)
theorem s20 : CallSpec Try.prog noGl 20 cDelta := fn_spec tab_ok mixed (ct_cons s28 ct_nil) il_nil Try.func20 (by kernel_rfl) (vcEq20 ▸ p20)
theorem s13 : CallSpec Try.prog noGl 13 cNormal := fn_spec tab_ok mixed (ct_cons s27 (ct_cons s28 ct_nil)) il_nil Try.func13 (by kernel_rfl) (vcEq13 ▸ p13)
theorem s10 : CallSpec Try.prog noGl 10 cNormal := fn_spec tab_ok mixed (ct_cons s26 ct_nil) il_nil Try.func10 (by kernel_rfl) (vcEq10 ▸ p10)
theorem s11 : CallSpec Try.prog noGl 11 cRefs := fn_spec tab_ok mixed ct_nil il_nil Try.func11 (by kernel_rfl) (vcEq11 ▸ p11)
theorem s12 : CallSpec Try.prog noGl 12 cMap := fn_spec tab_ok mixed (ct_cons s13 ct_nil) il_nil Try.func12 (by kernel_rfl) (vcEq12 ▸ p12)
theorem s14 : CallSpec Try.prog noGl 14 cRefMap := fn_spec tab_ok mixed ct_nil il_nil Try.func14 (by kernel_rfl) (vcEq14 ▸ p14)
theorem s9 : CallSpec Try.prog noGl 9 cTwo := fn_spec tab_ok mixed (ct_cons s12 (ct_cons s13 (ct_cons s20 ct_nil))) il_nil Try.func9 (by kernel_rfl) (vcEq9 ▸ p9)
theorem s3 : CallSpec Try.prog noGl 3 cPatchNormal := fn_spec tab_ok mixed (ct_cons s9 (ct_cons s11 (ct_cons s10 (ct_cons s12 (ct_cons s13 (ct_cons s14 ct_nil)))))) il_nil Try.func3 (by kernel_rfl) (vcEq3 ▸ p3)
end Go.Fr.C10
namespace Go.Proofs.Ytefahblfillfeaa
open Go Go.Fr Go.Fr.C10 Go.ChangeShapes Go.WideShapes Go.ChangeAt Go.RowKit
theorem own : ownKnob Try.prog.godebug = none := by kernel_rfl
theorem laidOut : laidOutB Try.prog = true := by kernel_rfl
set_option maxRecDepth 100000 in
theorem patchNormalLifted (os : Os) (started : os.Started) (H : Type) (enc : TypeId × Value → H) :
    ReturnsInHanded {} Try.checked os 3 .any (Rows.patchNormalSpec.pre6 enc Try.prog Try.f3 Rows.patchNormalRow.domain false) (Rows.patchNormalSpec.post enc Try.prog Try.f3 false true false false) :=
  law_lifted (C := Try.checked) (tb := 4) own started (by kernel_rfl) Try.func3
    (ChangeSpec.witness6 (enc := enc) (C := Try.checked) false ⟨#[], #[.slice none 0 0, .int .i64 0, .int .i64 0], []⟩ 8 (by kernel_rfl) (by kernel_rfl) (by kernel_rfl) (by kernel_rfl))
    (by kernel_rfl) laidOut rfl rfl (fun ds h => by
      match ds, h with
      | [d1, d2, d3], _ => rfl) s3 (fun y h => h.1.1)
theorem patchNormalOver : Rows.patchNormalRow.holds Try.pinned (OpenSpec.ofChange Rows.patchNormalSpec) :=
  OpenClaim.holds_of_wide 3 Try.f3 rfl rfl rfl rfl rfl rfl rfl ⟨rfl, rfl, rfl, rfl, rfl⟩ rfl rfl rfl rfl rfl (by kernel_rfl) Try.func3 (by kernel_rfl)
    (of_decide_eq_true (by kernel_rfl)) (by unfold Func.isWrapper; first | (rw [if_pos (by decide +kernel)]; kernel_rfl) | (rw [if_neg (by decide +kernel)]; exact ⟨rfl, rfl⟩))
    (fun os started H enc _ => patchNormalLifted os started H enc)
theorem patchNormalProved : Rows.PatchNormalSaid := patchNormalOver
#print axioms patchNormalProved
end Go.Proofs.Ytefahblfillfeaa
