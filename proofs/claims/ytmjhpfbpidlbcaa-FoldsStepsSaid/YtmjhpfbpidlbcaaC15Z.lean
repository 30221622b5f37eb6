/-
  Chapter C15: contracts of functions; rows of laws. Conditions: none.
-/
import Derived.Test.YtmjhpfbpidlbcaaC15Y
import Derived.Test.YtmjhpfbpidlbcaaC15G
import Derived.Test.YtmjhpfbpidlbcaaC15H
import Derived.Test.YtmjhpfbpidlbcaaC15K
import Derived.Test.YtmjhpfbpidlbcaaRows
namespace Go.Fr.C15
open Go Go.Fr Go.Proofs
theorem s3 : CallSpec Try.prog noGl 3 cFoldsHide := fn_spec tab_ok mixed (ct_cons s8 (ct_cons s9 (ct_cons s10 (ct_cons s11 ct_nil)))) il_nil Try.func3 (by kernel_rfl) (vcEq3 ▸ p3)
theorem s5 : CallSpec Try.prog noGl 5 cFoldsGrow := fn_spec tab_ok mixed (ct_cons s8 (ct_cons s9 (ct_cons s10 (ct_cons s15 (ct_cons s16 ct_nil))))) il_nil Try.func5 (by kernel_rfl) (vcEq5 ▸ p5)
theorem s6 : CallSpec Try.prog noGl 6 cFoldsSteps := fn_spec tab_ok mixed (ct_cons s8 (ct_cons s9 (ct_cons s10 (ct_cons s12 (ct_cons s17 (ct_cons s18 (ct_cons s19 (ct_cons s20 (ct_cons s15 (ct_cons s22 (ct_cons s21 ct_nil))))))))))) il_nil Try.func6 (by kernel_rfl) (vcEq6 ▸ p6)
end Go.Fr.C15
namespace Go.Proofs.Ytmjhpfbpidlbcaa
open Go Go.Fr Go.Fr.C15 Go.ChangeShapes Go.WideShapes Go.ChangeAt Go.RowKit
set_option maxRecDepth 100000 in
theorem foldsHideLifted (os : Os) (started : os.Started) (H : Type) (enc : TypeId × Value → H) :
    ReturnsInHanded {} Try.checked os 3 .any (Rows.foldsHideSpec.pre6 enc Try.prog Try.f3 Rows.foldsHideRow.domain false) (Rows.foldsHideSpec.post enc Try.prog Try.f3 false true false false) :=
  law_lifted (C := Try.checked) (tb := 4) own started (by kernel_rfl) Try.func3
    (ChangeSpec.witness6 (enc := enc) (C := Try.checked) false ⟨#[], #[.int .i64 0, .slice none 0 0], []⟩ 8 (by kernel_rfl) (by kernel_rfl) (by kernel_rfl) (by kernel_rfl))
    (by kernel_rfl) laidOut rfl rfl (fun ds h => by
      match ds, h with
      | [d1, d2], _ => rfl) s3 (fun y h => h.2.1.1)
theorem foldsHideOver : Rows.foldsHideRow.holds Try.pinned (OpenSpec.ofChange Rows.foldsHideSpec) :=
  OpenClaim.holds_of_wide 3 Try.f3 rfl rfl rfl rfl rfl rfl rfl ⟨rfl, rfl, rfl, rfl, rfl⟩ rfl rfl rfl rfl rfl (by kernel_rfl) Try.func3 (by kernel_rfl)
    (of_decide_eq_true (by kernel_rfl)) (by unfold Func.isWrapper; first | (rw [if_pos (by decide +kernel)]; kernel_rfl) | (rw [if_neg (by decide +kernel)]; exact ⟨rfl, rfl⟩))
    (fun os started H enc _ => foldsHideLifted os started H enc)
theorem foldsHideProved : Rows.FoldsHideSaid := foldsHideOver
#print axioms foldsHideProved
set_option maxRecDepth 100000 in
theorem foldsGrowLifted (os : Os) (started : os.Started) (H : Type) (enc : TypeId × Value → H) :
    ReturnsInHanded {} Try.checked os 5 .any (Rows.foldsGrowSpec.pre6 enc Try.prog Try.f5 Rows.foldsGrowRow.domain false) (Rows.foldsGrowSpec.post enc Try.prog Try.f5 false true false false) :=
  law_lifted (C := Try.checked) (tb := 4) own started (by kernel_rfl) Try.func5
    (ChangeSpec.witness6 (enc := enc) (C := Try.checked) false ⟨#[], #[.int .i64 0, .agg #[.int .i64 0, .int .i64 0], .agg #[.int .i64 0, .int .i64 0]], []⟩ 8 (by kernel_rfl) (by kernel_rfl) (by kernel_rfl) (by kernel_rfl))
    (by kernel_rfl) laidOut rfl rfl (fun ds h => by
      match ds, h with
      | [d1, d2, d3], _ => rfl) s5 (fun _ _ => trivial)
theorem foldsGrowOver : Rows.foldsGrowRow.holds Try.pinned (OpenSpec.ofChange Rows.foldsGrowSpec) :=
  OpenClaim.holds_of_wide 5 Try.f5 rfl rfl rfl rfl rfl rfl rfl ⟨rfl, rfl, rfl, rfl, rfl⟩ rfl rfl rfl rfl rfl (by kernel_rfl) Try.func5 (by kernel_rfl)
    (of_decide_eq_true (by kernel_rfl)) (by unfold Func.isWrapper; first | (rw [if_pos (by decide +kernel)]; kernel_rfl) | (rw [if_neg (by decide +kernel)]; exact ⟨rfl, rfl⟩))
    (fun os started H enc _ => foldsGrowLifted os started H enc)
theorem foldsGrowProved : Rows.FoldsGrowSaid := foldsGrowOver
#print axioms foldsGrowProved
set_option maxRecDepth 100000 in
theorem foldsStepsLifted (os : Os) (started : os.Started) (H : Type) (enc : TypeId × Value → H) :
    ReturnsInHanded {} Try.checked os 6 .any (Rows.foldsStepsSpec.pre6 enc Try.prog Try.f6 Rows.foldsStepsRow.domain false) (Rows.foldsStepsSpec.post enc Try.prog Try.f6 false true false false) :=
  law_lifted (C := Try.checked) (tb := 4) own started (by kernel_rfl) Try.func6
    (ChangeSpec.witness6 (enc := enc) (C := Try.checked) false ⟨#[], #[.int .i64 0, .slice none 0 0, .slice none 0 0], []⟩ 8 (by kernel_rfl) (by kernel_rfl) (by kernel_rfl) (by kernel_rfl))
    (by kernel_rfl) laidOut rfl rfl (fun ds h => by
      match ds, h with
      | [d1, d2, d3], _ => rfl) s6 (fun y h => ⟨h.2.1.1, h.2.2.1.1, fun o ho => (h.2.2.1.2 o ho).2.2.1.1⟩)
theorem foldsStepsOver : Rows.foldsStepsRow.holds Try.pinned (OpenSpec.ofChange Rows.foldsStepsSpec) :=
  OpenClaim.holds_of_wide 6 Try.f6 rfl rfl rfl rfl rfl rfl rfl ⟨rfl, rfl, rfl, rfl, rfl⟩ rfl rfl rfl rfl rfl (by kernel_rfl) Try.func6 (by kernel_rfl)
    (of_decide_eq_true (by kernel_rfl)) (by unfold Func.isWrapper; first | (rw [if_pos (by decide +kernel)]; kernel_rfl) | (rw [if_neg (by decide +kernel)]; exact ⟨rfl, rfl⟩))
    (fun os started H enc _ => foldsStepsLifted os started H enc)
theorem foldsStepsProved : Rows.FoldsStepsSaid := foldsStepsOver
#print axioms foldsStepsProved
end Go.Proofs.Ytmjhpfbpidlbcaa
