/-
  Chapter 04: the laws' rows. Conditions: none.
-/
import Derived.Test.YtkgmpnadgilpjaaC4l
import Derived.Test.YtkgmpnadgilpjaaRows
namespace Go.Proofs.Ytkgmpnadgilpjaa
open Go Go.Fr Go.Fr.C4 Go.ChangeShapes Go.WideShapes Go.ChangeAt Go.RowKit
theorem own : ownKnob Try.prog.godebug = none := by kernel_rfl
theorem laidOut : laidOutB Try.prog = true := by kernel_rfl

theorem itemSumsSpec : CallSpec Try.prog 3 (lawC (.pair t22 .unit) (any _)) := fn_spec tab_ok mixed (ct_cons sRight (ct_cons sBoth (ct_cons sAll (ct_cons sRefSum (ct_cons sOf (ct_cons sSum ct_nil)))))) Try.func3 (by kernel_rfl) vSums
set_option maxRecDepth 100000 in
theorem itemSumsLifted (os : Os) (started : os.Started) (H : Type) (enc : TypeId × Value → H) :
    ReturnsInHanded {} Try.checked os 3 .any (Rows.itemSumsSpec.pre6 enc Try.prog Try.f3 Rows.itemSumsRow.domain false) (Rows.itemSumsSpec.post enc Try.prog Try.f3 false true false false) :=
  law_lifted (C := Try.checked) (A := (.pair t22 .unit)) (tb := 4) own started (by kernel_rfl) Try.func3
    (ChangeSpec.witness6 (enc := enc) (C := Try.checked) false ⟨#[], #[.slice none 0 0], []⟩ 8 (by kernel_rfl) (by kernel_rfl) (by kernel_rfl) (by kernel_rfl))
    (by kernel_rfl) laidOut rfl rfl (fun ds h => by
      match ds, h with
      | [d], _ => rfl) itemSumsSpec (fun _ _ => trivial)
theorem itemSumsOver : Rows.itemSumsRow.holds Try.pinned (OpenSpec.ofChange Rows.itemSumsSpec) :=
  OpenClaim.holds_of_wide 3 Try.f3 rfl rfl rfl rfl rfl rfl rfl ⟨rfl, rfl, rfl, rfl, rfl⟩ rfl rfl rfl rfl rfl (by kernel_rfl) Try.func3 (by kernel_rfl)
    (of_decide_eq_true (by kernel_rfl)) (by unfold Func.isWrapper; first | (rw [if_pos (by decide +kernel)]; kernel_rfl) | (rw [if_neg (by decide +kernel)]; exact ⟨rfl, rfl⟩))
    (fun os started H enc _ => itemSumsLifted os started H enc)
theorem itemSumsProved : Rows.ItemSumsSaid := itemSumsOver
#print axioms itemSumsProved

theorem itemBracketsSpec : CallSpec Try.prog 5 (lawC (.pair t22 (.pair t22 (.pair t22 .unit))) (any _)) := fn_spec tab_ok mixed (ct_cons sRight (ct_cons sBoth (ct_cons sAll (ct_cons sAdd ct_nil)))) Try.func5 (by kernel_rfl) vBrackets
set_option maxRecDepth 100000 in
theorem itemBracketsLifted (os : Os) (started : os.Started) (H : Type) (enc : TypeId × Value → H) :
    ReturnsInHanded {} Try.checked os 5 .any (Rows.itemBracketsSpec.pre6 enc Try.prog Try.f5 Rows.itemBracketsRow.domain false) (Rows.itemBracketsSpec.post enc Try.prog Try.f5 false true false false) :=
  law_lifted (C := Try.checked) (A := (.pair t22 (.pair t22 (.pair t22 .unit)))) (tb := 4) own started (by kernel_rfl) Try.func5
    (ChangeSpec.witness6 (enc := enc) (C := Try.checked) false ⟨#[], #[.slice none 0 0, .slice none 0 0, .slice none 0 0], []⟩ 8 (by kernel_rfl) (by kernel_rfl) (by kernel_rfl) (by kernel_rfl))
    (by kernel_rfl) laidOut rfl rfl (fun ds h => by
      match ds, h with
      | [d1, d2, d3], _ => rfl) itemBracketsSpec (fun _ _ => trivial)
theorem itemBracketsOver : Rows.itemBracketsRow.holds Try.pinned (OpenSpec.ofChange Rows.itemBracketsSpec) :=
  OpenClaim.holds_of_wide 5 Try.f5 rfl rfl rfl rfl rfl rfl rfl ⟨rfl, rfl, rfl, rfl, rfl⟩ rfl rfl rfl rfl rfl (by kernel_rfl) Try.func5 (by kernel_rfl)
    (of_decide_eq_true (by kernel_rfl)) (by unfold Func.isWrapper; first | (rw [if_pos (by decide +kernel)]; kernel_rfl) | (rw [if_neg (by decide +kernel)]; exact ⟨rfl, rfl⟩))
    (fun os started H enc _ => itemBracketsLifted os started H enc)
theorem itemBracketsProved : Rows.ItemBracketsSaid := itemBracketsOver
#print axioms itemBracketsProved

theorem itemChecksSpec : CallSpec Try.prog 6 (lawC (.pair t27 .unit) (any _)) := fn_spec tab_ok mixed (ct_cons sBoth (ct_cons sCheck (ct_cons sRightI (ct_cons sRef ct_nil)))) Try.func6 (by kernel_rfl) vChecks
set_option maxRecDepth 100000 in
theorem itemChecksLifted (os : Os) (started : os.Started) (H : Type) (enc : TypeId × Value → H) :
    ReturnsInHanded {} Try.checked os 6 .any (Rows.itemChecksSpec.pre6 enc Try.prog Try.f6 Rows.itemChecksRow.domain false) (Rows.itemChecksSpec.post enc Try.prog Try.f6 false true false false) :=
  law_lifted (C := Try.checked) (A := (.pair t27 .unit)) (tb := 4) own started (by kernel_rfl) Try.func6
    (ChangeSpec.witness6 (enc := enc) (C := Try.checked) false ⟨#[], #[.agg #[.int .i64 0, .int .i64 0, .int .i64 0, .int .i64 0, .int .i64 0, .int .i64 0, .string ByteArray.empty]], []⟩ 8 (by kernel_rfl) (by kernel_rfl) (by kernel_rfl) (by kernel_rfl))
    (by kernel_rfl) laidOut rfl rfl (fun ds h => by
      match ds, h with
      | [d], _ => rfl) itemChecksSpec (fun _ _ => trivial)
theorem itemChecksOver : Rows.itemChecksRow.holds Try.pinned (OpenSpec.ofChange Rows.itemChecksSpec) :=
  OpenClaim.holds_of_wide 6 Try.f6 rfl rfl rfl rfl rfl rfl rfl ⟨rfl, rfl, rfl, rfl, rfl⟩ rfl rfl rfl rfl rfl (by kernel_rfl) Try.func6 (by kernel_rfl)
    (of_decide_eq_true (by kernel_rfl)) (by unfold Func.isWrapper; first | (rw [if_pos (by decide +kernel)]; kernel_rfl) | (rw [if_neg (by decide +kernel)]; exact ⟨rfl, rfl⟩))
    (fun os started H enc _ => itemChecksLifted os started H enc)
theorem itemChecksProved : Rows.ItemChecksSaid := itemChecksOver
#print axioms itemChecksProved
end Go.Proofs.Ytkgmpnadgilpjaa
