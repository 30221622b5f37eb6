/-
  Chapter C25: contracts of functions; rows of laws. Conditions: none.
-/
import Derived.Test.YtbcdgcpaojfknaaC25Y
import Derived.Test.YtbcdgcpaojfknaaC25T
import Derived.Test.YtbcdgcpaojfknaaRows
namespace Go.Fr.C25
open Go Go.Fr Go.Proofs
theorem s33 : CallSpec Try.prog noGl 33 cPCells := fn_spec tab_ok mixed ct_nil il_nil Try.func33 (by kernel_rfl) (vcEq33 ▸ p33)
theorem s31 : CallSpec Try.prog noGl 31 cPRow := fn_spec tab_ok mixed (ct_cons s33 ct_nil) il_nil Try.func31 (by kernel_rfl) (vcEq31 ▸ p31)
theorem s20 : CallSpec Try.prog noGl 20 cRows := fn_spec tab_ok mixed (ct_cons s31 ct_nil) il_nil Try.func20 (by kernel_rfl) (vcEq20 ▸ p20)
theorem s30 : CallSpec Try.prog noGl 30 cConcat := fn_spec tab_ok mixed ct_nil (il_cons Try.func32 (by kernel_rfl) il_nil) Try.func30 (by kernel_rfl) (vcEq30 ▸ p30)
theorem s19 : CallSpec Try.prog noGl 19 cApply := fn_spec tab_ok mixed (ct_cons s12 (ct_cons s30 ct_nil)) il_nil Try.func19 (by kernel_rfl) (vcEq19 ▸ p19)
theorem s7 : CallSpec Try.prog noGl 7 cDiffApplies := fn_spec tab_ok mixed (ct_cons s14 (ct_cons s9 (ct_cons s19 (ct_cons s13 (ct_cons s20 ct_nil))))) il_nil Try.func7 (by kernel_rfl) (vcEq7 ▸ p7)
theorem s8 : CallSpec Try.prog noGl 8 cDiffBack := fn_spec tab_ok mixed (ct_cons s14 (ct_cons s9 (ct_cons s15 (ct_cons s17 (ct_cons s19 (ct_cons s11 ct_nil)))))) il_nil Try.func8 (by kernel_rfl) (vcEq8 ▸ p8)
end Go.Fr.C25
namespace Go.Proofs.Ytbcdgcpaojfknaa
open Go Go.Fr Go.Fr.C25 Go.ChangeShapes Go.WideShapes Go.ChangeAt Go.RowKit
set_option maxRecDepth 100000 in
theorem diffAppliesLifted (os : Os) (started : os.Started) (H : Type) (enc : TypeId × Value → H) :
    ReturnsInHanded {} Try.checked os 7 .any (Rows.diffAppliesSpec.pre6 enc Try.prog Try.f7 Rows.diffAppliesRow.domain false) (Rows.diffAppliesSpec.post enc Try.prog Try.f7 false true false false) :=
  law_lifted_sized (C := Try.checked) (tb := 4) own started (by kernel_rfl) Try.func7
    (ChangeSpec.witness6 (enc := enc) (C := Try.checked) false ⟨#[], #[.slice none 0 0, .slice none 0 0, .agg #[.int .i64 0, .int .i64 0, .int .i64 0, .int .i64 0]], []⟩ 8 (by kernel_rfl) (by kernel_rfl) (by kernel_rfl) (by kernel_rfl))
    (by kernel_rfl) laidOut rfl rfl (fun ds h => by
      match ds, h with
      | [d1, d2, d3], _ => rfl) s7 (fun y h hm => ⟨⟨hm.1.1, fun r hr => (hm.1.2 r hr).1.1⟩, ⟨hm.2.1.1, fun r hr => (hm.2.1.2 r hr).1.1⟩⟩)
theorem diffAppliesOver : Rows.diffAppliesRow.holds Try.pinned (OpenSpec.ofChange Rows.diffAppliesSpec) :=
  OpenClaim.holds_of_wide 7 Try.f7 rfl rfl rfl rfl rfl rfl rfl ⟨rfl, rfl, rfl, rfl, rfl⟩ rfl rfl rfl rfl rfl (by kernel_rfl) Try.func7 (by kernel_rfl)
    (of_decide_eq_true (by kernel_rfl)) (by unfold Func.isWrapper; first | (rw [if_pos (by decide +kernel)]; kernel_rfl) | (rw [if_neg (by decide +kernel)]; exact ⟨rfl, rfl⟩))
    (fun os started H enc _ => diffAppliesLifted os started H enc)
theorem diffAppliesProved : Rows.DiffAppliesSaid := diffAppliesOver
#print axioms diffAppliesProved
set_option maxRecDepth 100000 in
theorem diffBackLifted (os : Os) (started : os.Started) (H : Type) (enc : TypeId × Value → H) :
    ReturnsInHanded {} Try.checked os 8 .any (Rows.diffBackSpec.pre6 enc Try.prog Try.f8 Rows.diffBackRow.domain false) (Rows.diffBackSpec.post enc Try.prog Try.f8 false true false false) :=
  law_lifted_sized (C := Try.checked) (tb := 4) own started (by kernel_rfl) Try.func8
    (ChangeSpec.witness6 (enc := enc) (C := Try.checked) false ⟨#[], #[.slice none 0 0, .slice none 0 0, .agg #[.int .i64 0, .int .i64 0, .int .i64 0, .int .i64 0]], []⟩ 8 (by kernel_rfl) (by kernel_rfl) (by kernel_rfl) (by kernel_rfl))
    (by kernel_rfl) laidOut rfl rfl (fun ds h => by
      match ds, h with
      | [d1, d2, d3], _ => rfl) s8 (fun y h hm => ⟨⟨hm.1.1, fun r hr => (hm.1.2 r hr).1.1⟩, ⟨hm.2.1.1, fun r hr => (hm.2.1.2 r hr).1.1⟩⟩)
theorem diffBackOver : Rows.diffBackRow.holds Try.pinned (OpenSpec.ofChange Rows.diffBackSpec) :=
  OpenClaim.holds_of_wide 8 Try.f8 rfl rfl rfl rfl rfl rfl rfl ⟨rfl, rfl, rfl, rfl, rfl⟩ rfl rfl rfl rfl rfl (by kernel_rfl) Try.func8 (by kernel_rfl)
    (of_decide_eq_true (by kernel_rfl)) (by unfold Func.isWrapper; first | (rw [if_pos (by decide +kernel)]; kernel_rfl) | (rw [if_neg (by decide +kernel)]; exact ⟨rfl, rfl⟩))
    (fun os started H enc _ => diffBackLifted os started H enc)
theorem diffBackProved : Rows.DiffBackSaid := diffBackOver
#print axioms diffBackProved
end Go.Proofs.Ytbcdgcpaojfknaa
