/-
  Chapter C10: contracts of functions; rows of laws. Conditions: none.
-/
import Derived.Test.YtefahblfillfeaaC10Z
import Derived.Test.YtefahblfillfeaaC10F
import Derived.Test.YtefahblfillfeaaRows
namespace Go.Fr.C10
open Go Go.Fr Go.Proofs
theorem s38 : CallSpec Try.prog noGl 38 cNumber := fn_spec tab_ok mixed ct_nil il_nil Try.func38 (by kernel_rfl) (vcEq38 ▸ p38)
theorem s39 : CallSpec Try.prog noGl 39 cUSize := fn_spec tab_ok mixed ct_nil il_nil Try.func39 (by kernel_rfl) (vcEq39 ▸ p39)
theorem s40 : CallSpec Try.prog noGl 40 cOne := fn_spec tab_ok mixed ct_nil il_nil Try.func40 (by kernel_rfl) (vcEq40 ▸ p40)
theorem s30 : CallSpec Try.prog noGl 30 cStep := fn_spec tab_ok mixed (ct_cons s38 (ct_cons s39 (ct_cons s40 ct_nil))) il_nil Try.func30 (by kernel_rfl) (vcEq30 ▸ p30)
theorem s16 : CallSpec Try.prog noGl 16 cDecode := fn_spec tab_ok mixed (ct_cons s30 ct_nil) il_nil Try.func16 (by kernel_rfl) (vcEq16 ▸ p16)
theorem s31 : CallSpec Try.prog noGl 31 cCount := fn_spec tab_ok mixed ct_nil il_nil Try.func31 (by kernel_rfl) (vcEq31 ▸ p31)
theorem s29 : CallSpec Try.prog noGl 29 cInside := fn_spec tab_ok mixed ct_nil il_nil Try.func29 (by kernel_rfl) (vcEq29 ▸ p29)
theorem s15 : CallSpec Try.prog noGl 15 cCheck := fn_spec tab_ok mixed (ct_cons s29 ct_nil) il_nil Try.func15 (by kernel_rfl) (vcEq15 ▸ p15)
theorem s17 : CallSpec Try.prog noGl 17 cOf := fn_spec tab_ok mixed (ct_cons s31 (ct_cons s28 ct_nil)) il_nil Try.func17 (by kernel_rfl) (vcEq17 ▸ p17)
theorem s19 : CallSpec Try.prog noGl 19 cRefOf := fn_spec tab_ok mixed (ct_cons s16 ct_nil) il_nil Try.func19 (by kernel_rfl) (vcEq19 ▸ p19)
theorem s4 : CallSpec Try.prog noGl 4 cPatchOf := fn_spec tab_ok mixed (ct_cons s15 (ct_cons s9 (ct_cons s16 (ct_cons s17 (ct_cons s11 (ct_cons s19 (ct_cons s18 (ct_cons s13 (ct_cons s20 ct_nil))))))))) il_nil Try.func4 (by kernel_rfl) (vcEq4 ▸ p4)
end Go.Fr.C10
namespace Go.Proofs.Ytefahblfillfeaa
open Go Go.Fr Go.Fr.C10 Go.ChangeShapes Go.WideShapes Go.ChangeAt Go.RowKit
set_option maxRecDepth 100000 in
theorem patchOfLifted (os : Os) (started : os.Started) (H : Type) (enc : TypeId × Value → H) :
    ReturnsInHanded {} Try.checked os 4 .any (Rows.patchOfSpec.pre6 enc Try.prog Try.f4 Rows.patchOfRow.domain false) (Rows.patchOfSpec.post enc Try.prog Try.f4 false true false false) :=
  law_lifted (C := Try.checked) (tb := 4) own started (by kernel_rfl) Try.func4
    (ChangeSpec.witness6 (enc := enc) (C := Try.checked) false ⟨#[], #[.int .i64 0, .slice none 0 0], []⟩ 8 (by kernel_rfl) (by kernel_rfl) (by kernel_rfl) (by kernel_rfl))
    (by kernel_rfl) laidOut rfl rfl (fun ds h => by
      match ds, h with
      | [d1, d2], _ => rfl) s4 (fun y h => ⟨h.2.1.1, fun e he => (h.2.1.2 e he).2.2.1⟩)
theorem patchOfOver : Rows.patchOfRow.holds Try.pinned (OpenSpec.ofChange Rows.patchOfSpec) :=
  OpenClaim.holds_of_wide 4 Try.f4 rfl rfl rfl rfl rfl rfl rfl ⟨rfl, rfl, rfl, rfl, rfl⟩ rfl rfl rfl rfl rfl (by kernel_rfl) Try.func4 (by kernel_rfl)
    (of_decide_eq_true (by kernel_rfl)) (by unfold Func.isWrapper; first | (rw [if_pos (by decide +kernel)]; kernel_rfl) | (rw [if_neg (by decide +kernel)]; exact ⟨rfl, rfl⟩))
    (fun os started H enc _ => patchOfLifted os started H enc)
theorem patchOfProved : Rows.PatchOfSaid := patchOfOver
#print axioms patchOfProved
end Go.Proofs.Ytefahblfillfeaa
