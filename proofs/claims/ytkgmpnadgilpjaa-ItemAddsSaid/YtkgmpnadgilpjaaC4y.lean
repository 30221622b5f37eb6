/-
  Chapter 04: the row of the law of sums of two lists. Conditions: none.
-/
import Derived.Test.YtkgmpnadgilpjaaC4m
import Derived.Test.YtkgmpnadgilpjaaC4z
namespace Go.Proofs.Ytkgmpnadgilpjaa
open Go Go.Fr Go.Fr.C4 Go.ChangeShapes Go.WideShapes Go.ChangeAt Go.RowKit

theorem itemAddsSpec : CallSpec Try.prog 4 (lawC (.pair t22 (.pair t22 .unit)) (any _)) := fn_spec tab_ok mixed (ct_cons sRight (ct_cons sBoth (ct_cons sAll (ct_cons sAdd ct_nil)))) Try.func4 (by kernel_rfl) vAdds
set_option maxRecDepth 100000 in
theorem itemAddsLifted (os : Os) (started : os.Started) (H : Type) (enc : TypeId × Value → H) :
    ReturnsInHanded {} Try.checked os 4 .any (Rows.itemAddsSpec.pre6 enc Try.prog Try.f4 Rows.itemAddsRow.domain false) (Rows.itemAddsSpec.post enc Try.prog Try.f4 false true false false) :=
  law_lifted (C := Try.checked) (A := (.pair t22 (.pair t22 .unit))) (tb := 4) own started (by kernel_rfl) Try.func4
    (ChangeSpec.witness6 (enc := enc) (C := Try.checked) false ⟨#[], #[.slice none 0 0, .slice none 0 0], []⟩ 8 (by kernel_rfl) (by kernel_rfl) (by kernel_rfl) (by kernel_rfl))
    (by kernel_rfl) laidOut rfl rfl (fun ds h => by
      match ds, h with
      | [d1, d2], _ => rfl) itemAddsSpec (fun _ _ => trivial)
theorem itemAddsOver : Rows.itemAddsRow.holds Try.pinned (OpenSpec.ofChange Rows.itemAddsSpec) :=
  OpenClaim.holds_of_wide 4 Try.f4 rfl rfl rfl rfl rfl rfl rfl ⟨rfl, rfl, rfl, rfl, rfl⟩ rfl rfl rfl rfl rfl (by kernel_rfl) Try.func4 (by kernel_rfl)
    (of_decide_eq_true (by kernel_rfl)) (by unfold Func.isWrapper; first | (rw [if_pos (by decide +kernel)]; kernel_rfl) | (rw [if_neg (by decide +kernel)]; exact ⟨rfl, rfl⟩))
    (fun os started H enc _ => itemAddsLifted os started H enc)
theorem itemAddsProved : Rows.ItemAddsSaid := itemAddsOver
#print axioms itemAddsProved
end Go.Proofs.Ytkgmpnadgilpjaa
