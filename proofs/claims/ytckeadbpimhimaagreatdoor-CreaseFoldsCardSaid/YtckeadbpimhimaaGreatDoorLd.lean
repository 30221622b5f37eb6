/-
  Chapter 16: the row of CreaseFolds. Conditions: none.
-/
import Derived.Test.YtckeadbpimhimaaGreatDoorG6
namespace Go.Proofs.YtckeadbpimhimaaGreatDoor
open Go Go.Fr Go.Fr.Z16 Go.ChangeShapes Go.WideShapes Go.ChangeAt Go.RowKit
set_option maxRecDepth 100000 in
theorem creaseFoldsLifted (os : Os) (started : os.Started) (H : Type) (enc : TypeId × Value → H) :
    ReturnsInHanded {} Tryz.checked os 6 .any (fun w args => (Rows.creaseFoldsSpec.pre enc Tryz.prog Tryz.f6 [] false w args ∧ laidMetH Tryz.prog laid1 w) ∧ sizedMet enc Tryz.prog Tryz.f6 (OpenSpec.ofChange Rows.creaseFoldsSpec) false w args)
      (Rows.creaseFoldsSpec.post enc Tryz.prog Tryz.f6 false true false false) :=
  law_lifted_laid (C := Tryz.checked) (tb := 4) (X := fun w => laidMetH Tryz.prog laid1 w) (fun _ _ hh h => h.of_heap hh) own started (by kernel_rfl) Tryz.func6
    (ChangeSpec.witness_shaped (enc := enc) (C := Tryz.checked) (os := os) (X := fun w _ => laidMetH Tryz.prog laid1 w) false (World.doorLaid Tryz.prog 400 os) #[.agg #[.int .i64 0, .slice none 0 0, .slice none 0 0], .slice none 0 0] 8 rfl (World.shaped_of_RefB (by kernel_rfl) (by kernel_rfl)) (by kernel_rfl) (by kernel_rfl) (by kernel_rfl) (door_met os _))
    (by kernel_rfl) laidOut rfl rfl (fun ds h => by
      match ds, h with
      | [d1, d2], _ => rfl) (fun W h => glob_of h) s6 (fun y h => ⟨h.1.2.1.1, h.1.2.2.1.1, h.2.1.1⟩)
theorem creaseFoldsOver : Rows.CreaseFoldsSaid :=
  OpenClaim.holds_of_wide 6 Tryz.f6 rfl rfl rfl rfl rfl rfl rfl ⟨rfl, rfl, rfl, rfl, rfl⟩ rfl rfl rfl rfl rfl (by kernel_rfl) Tryz.func6 (by kernel_rfl)
    (of_decide_eq_true (by kernel_rfl)) (by unfold Func.isWrapper; first | (rw [if_pos (by decide +kernel)]; kernel_rfl) | (rw [if_neg (by decide +kernel)]; exact ⟨rfl, rfl⟩))
    (fun os started H enc _ => creaseFoldsLifted os started H enc)
theorem creaseFoldsProved : Rows.CreaseFoldsCardSaid :=
  Claim7.holds_tied_plain_at .later [] [.data] true (true, "cc6b79c5cce5a2892a7a7aa127512a4ef5132bfdcf66d40106187863b159fed4") true
    creaseFoldsOver (fun _ h => by cases h) (by kernel_rfl) (fun _ h => by cases h) creaseFolds_row_tie rfl ⟨rfl, rfl⟩ (by kernel_rfl) rfl
    (fun f fn hf hfn => by
      obtain rfl : f = 6 := Option.some.inj ((show Tryz.prog.funcNamed "bodkin/bodkinlaw16.CreaseFolds" = some 6 by kernel_rfl).symm.trans hf) |>.symm
      obtain rfl : fn = Tryz.f6 := (Option.some.inj (Tryz.func6.symm.trans hfn)).symm
      exact ⟨by kernel_rfl, fun j t ht => by
        rw [Tryz.params6] at ht
        have hm : t ∈ [25, 23] := by simpa using Array.mem_of_getElem? ht
        have hall : ([25, 23].all fun u => !Tryz.prog.wantsStandIn u) = true := by kernel_rfl
        exact (show Tryz.prog.wantsStandIn t = false by simpa using List.all_eq_true.1 hall t hm)⟩)
    (by kernel_rfl)
#print axioms creaseFoldsProved
end Go.Proofs.YtckeadbpimhimaaGreatDoor
