/-
  Chapter C10: contracts of functions; rows of laws. Conditions: none.
-/
import Derived.Test.YtefahblfillfeaaC10Y
import Derived.Test.YtefahblfillfeaaC10R
import Derived.Test.YtefahblfillfeaaRows
namespace Go.Fr.C10
open Go Go.Fr Go.Proofs
theorem s35 : CallSpec Try.prog noGl 35 cEnd := fn_spec tab_ok mixed ct_nil il_nil Try.func35 (by kernel_rfl) (vcEq35 ▸ p35)
theorem s18 : CallSpec Try.prog noGl 18 cSame := fn_spec tab_ok mixed ct_nil il_nil Try.func18 (by kernel_rfl) (vcEq18 ▸ p18)
theorem s22 : CallSpec Try.prog noGl 22 cSmall := fn_spec tab_ok mixed (ct_cons s11 (ct_cons s10 ct_nil)) il_nil Try.func22 (by kernel_rfl) (vcEq22 ▸ p22)
theorem s24 : CallSpec Try.prog noGl 24 cKept := fn_spec tab_ok mixed ct_nil il_nil Try.func24 (by kernel_rfl) (vcEq24 ▸ p24)
theorem s23 : CallSpec Try.prog noGl 23 cRefCompose := fn_spec tab_ok mixed (ct_cons s35 (ct_cons s24 ct_nil)) il_nil Try.func23 (by kernel_rfl) (vcEq23 ▸ p23)
theorem s25 : CallSpec Try.prog noGl 25 cInvert := fn_spec tab_ok mixed ct_nil (il_cons Try.func36 (by kernel_rfl) (il_cons Try.func37 (by kernel_rfl) il_nil)) Try.func25 (by kernel_rfl) (vcEq25 ▸ p25)
theorem s21 : CallSpec Try.prog noGl 21 cCompose := fn_spec tab_ok mixed (ct_cons s13 ct_nil) (il_cons Try.func33 (by kernel_rfl) (il_cons Try.func34 (by kernel_rfl) (il_cons Try.func32 (by kernel_rfl) il_nil))) Try.func21 (by kernel_rfl) (vcEq21 ▸ p21)
theorem s5 : CallSpec Try.prog noGl 5 cPatchComposes := fn_spec tab_ok mixed (ct_cons s9 (ct_cons s21 (ct_cons s11 (ct_cons s10 (ct_cons s22 (ct_cons s23 (ct_cons s18 (ct_cons s13 (ct_cons s20 ct_nil))))))))) il_nil Try.func5 (by kernel_rfl) (vcEq5 ▸ p5)
theorem s6 : CallSpec Try.prog noGl 6 cPatchBoth := fn_spec tab_ok mixed (ct_cons s22 (ct_cons s9 (ct_cons s21 (ct_cons s11 (ct_cons s24 ct_nil))))) il_nil Try.func6 (by kernel_rfl) (vcEq6 ▸ p6)
theorem s7 : CallSpec Try.prog noGl 7 cPatchBrackets := fn_spec tab_ok mixed (ct_cons s22 (ct_cons s9 (ct_cons s21 (ct_cons s11 (ct_cons s18 ct_nil))))) il_nil Try.func7 (by kernel_rfl) (vcEq7 ▸ p7)
theorem s8 : CallSpec Try.prog noGl 8 cPatchTurns := fn_spec tab_ok mixed (ct_cons s22 (ct_cons s9 (ct_cons s25 (ct_cons s21 (ct_cons s13 (ct_cons s11 (ct_cons s18 (ct_cons s20 (ct_cons s24 ct_nil))))))))) il_nil Try.func8 (by kernel_rfl) (vcEq8 ▸ p8)
end Go.Fr.C10
namespace Go.Proofs.Ytefahblfillfeaa
open Go Go.Fr Go.Fr.C10 Go.ChangeShapes Go.WideShapes Go.ChangeAt Go.RowKit
set_option maxRecDepth 100000 in
theorem patchComposesLifted (os : Os) (started : os.Started) (H : Type) (enc : TypeId × Value → H) :
    ReturnsInHanded {} Try.checked os 5 .any (Rows.patchComposesSpec.pre6 enc Try.prog Try.f5 Rows.patchComposesRow.domain false) (Rows.patchComposesSpec.post enc Try.prog Try.f5 false true false false) :=
  law_lifted (C := Try.checked) (tb := 4) own started (by kernel_rfl) Try.func5
    (ChangeSpec.witness6 (enc := enc) (C := Try.checked) false ⟨#[], #[.slice none 0 0, .slice none 0 0], []⟩ 8 (by kernel_rfl) (by kernel_rfl) (by kernel_rfl) (by kernel_rfl))
    (by kernel_rfl) laidOut rfl rfl (fun ds h => by
      match ds, h with
      | [d1, d2], _ => rfl) s5 (fun y h => ⟨h.1.1, h.2.1.1⟩)
theorem patchComposesOver : Rows.patchComposesRow.holds Try.pinned (OpenSpec.ofChange Rows.patchComposesSpec) :=
  OpenClaim.holds_of_wide 5 Try.f5 rfl rfl rfl rfl rfl rfl rfl ⟨rfl, rfl, rfl, rfl, rfl⟩ rfl rfl rfl rfl rfl (by kernel_rfl) Try.func5 (by kernel_rfl)
    (of_decide_eq_true (by kernel_rfl)) (by unfold Func.isWrapper; first | (rw [if_pos (by decide +kernel)]; kernel_rfl) | (rw [if_neg (by decide +kernel)]; exact ⟨rfl, rfl⟩))
    (fun os started H enc _ => patchComposesLifted os started H enc)
theorem patchComposesProved : Rows.PatchComposesSaid := patchComposesOver
#print axioms patchComposesProved
set_option maxRecDepth 100000 in
theorem patchBothLifted (os : Os) (started : os.Started) (H : Type) (enc : TypeId × Value → H) :
    ReturnsInHanded {} Try.checked os 6 .any (Rows.patchBothSpec.pre6 enc Try.prog Try.f6 Rows.patchBothRow.domain false) (Rows.patchBothSpec.post enc Try.prog Try.f6 false true false false) :=
  law_lifted (C := Try.checked) (tb := 4) own started (by kernel_rfl) Try.func6
    (ChangeSpec.witness6 (enc := enc) (C := Try.checked) false ⟨#[], #[.slice none 0 0, .slice none 0 0, .int .i64 0], []⟩ 8 (by kernel_rfl) (by kernel_rfl) (by kernel_rfl) (by kernel_rfl))
    (by kernel_rfl) laidOut rfl rfl (fun ds h => by
      match ds, h with
      | [d1, d2, d3], _ => rfl) s6 (fun y h => ⟨h.1.1, h.2.1.1⟩)
theorem patchBothOver : Rows.patchBothRow.holds Try.pinned (OpenSpec.ofChange Rows.patchBothSpec) :=
  OpenClaim.holds_of_wide 6 Try.f6 rfl rfl rfl rfl rfl rfl rfl ⟨rfl, rfl, rfl, rfl, rfl⟩ rfl rfl rfl rfl rfl (by kernel_rfl) Try.func6 (by kernel_rfl)
    (of_decide_eq_true (by kernel_rfl)) (by unfold Func.isWrapper; first | (rw [if_pos (by decide +kernel)]; kernel_rfl) | (rw [if_neg (by decide +kernel)]; exact ⟨rfl, rfl⟩))
    (fun os started H enc _ => patchBothLifted os started H enc)
theorem patchBothProved : Rows.PatchBothSaid := patchBothOver
#print axioms patchBothProved
set_option maxRecDepth 100000 in
theorem patchBracketsLifted (os : Os) (started : os.Started) (H : Type) (enc : TypeId × Value → H) :
    ReturnsInHanded {} Try.checked os 7 .any (Rows.patchBracketsSpec.pre6 enc Try.prog Try.f7 Rows.patchBracketsRow.domain false) (Rows.patchBracketsSpec.post enc Try.prog Try.f7 false true false false) :=
  law_lifted (C := Try.checked) (tb := 4) own started (by kernel_rfl) Try.func7
    (ChangeSpec.witness6 (enc := enc) (C := Try.checked) false ⟨#[], #[.slice none 0 0, .slice none 0 0, .slice none 0 0], []⟩ 8 (by kernel_rfl) (by kernel_rfl) (by kernel_rfl) (by kernel_rfl))
    (by kernel_rfl) laidOut rfl rfl (fun ds h => by
      match ds, h with
      | [d1, d2, d3], _ => rfl) s7 (fun y h => ⟨h.1.1, h.2.1.1, h.2.2.1.1⟩)
theorem patchBracketsOver : Rows.patchBracketsRow.holds Try.pinned (OpenSpec.ofChange Rows.patchBracketsSpec) :=
  OpenClaim.holds_of_wide 7 Try.f7 rfl rfl rfl rfl rfl rfl rfl ⟨rfl, rfl, rfl, rfl, rfl⟩ rfl rfl rfl rfl rfl (by kernel_rfl) Try.func7 (by kernel_rfl)
    (of_decide_eq_true (by kernel_rfl)) (by unfold Func.isWrapper; first | (rw [if_pos (by decide +kernel)]; kernel_rfl) | (rw [if_neg (by decide +kernel)]; exact ⟨rfl, rfl⟩))
    (fun os started H enc _ => patchBracketsLifted os started H enc)
theorem patchBracketsProved : Rows.PatchBracketsSaid := patchBracketsOver
#print axioms patchBracketsProved
set_option maxRecDepth 100000 in
theorem patchTurnsLifted (os : Os) (started : os.Started) (H : Type) (enc : TypeId × Value → H) :
    ReturnsInHanded {} Try.checked os 8 .any (Rows.patchTurnsSpec.pre6 enc Try.prog Try.f8 Rows.patchTurnsRow.domain false) (Rows.patchTurnsSpec.post enc Try.prog Try.f8 false true false false) :=
  law_lifted (C := Try.checked) (tb := 4) own started (by kernel_rfl) Try.func8
    (ChangeSpec.witness6 (enc := enc) (C := Try.checked) false ⟨#[], #[.slice none 0 0, .int .i64 0], []⟩ 8 (by kernel_rfl) (by kernel_rfl) (by kernel_rfl) (by kernel_rfl))
    (by kernel_rfl) laidOut rfl rfl (fun ds h => by
      match ds, h with
      | [d1, d2], _ => rfl) s8 (fun y h => h.1.1)
theorem patchTurnsOver : Rows.patchTurnsRow.holds Try.pinned (OpenSpec.ofChange Rows.patchTurnsSpec) :=
  OpenClaim.holds_of_wide 8 Try.f8 rfl rfl rfl rfl rfl rfl rfl ⟨rfl, rfl, rfl, rfl, rfl⟩ rfl rfl rfl rfl rfl (by kernel_rfl) Try.func8 (by kernel_rfl)
    (of_decide_eq_true (by kernel_rfl)) (by unfold Func.isWrapper; first | (rw [if_pos (by decide +kernel)]; kernel_rfl) | (rw [if_neg (by decide +kernel)]; exact ⟨rfl, rfl⟩))
    (fun os started H enc _ => patchTurnsLifted os started H enc)
theorem patchTurnsProved : Rows.PatchTurnsSaid := patchTurnsOver
#print axioms patchTurnsProved
end Go.Proofs.Ytefahblfillfeaa
