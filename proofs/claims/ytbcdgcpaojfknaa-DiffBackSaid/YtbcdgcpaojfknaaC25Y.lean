/-
  Chapter C25: contracts of functions; rows of laws. Conditions: none.
-/
import Derived.Test.YtbcdgcpaojfknaaC25R
import Derived.Test.YtbcdgcpaojfknaaRows
namespace Go.Fr.C25
open Go Go.Fr Go.Proofs
theorem s23 : CallSpec Try.prog noGl 23 cAlike := fn_spec tab_ok mixed ct_nil il_nil Try.func23 (by kernel_rfl) (vcEq23 ▸ p23)
theorem s10 : CallSpec Try.prog noGl 10 cSame := fn_spec tab_ok mixed (ct_cons s23 ct_nil) (il_cons Try.func22 (by kernel_rfl) il_nil) Try.func10 (by kernel_rfl) (vcEq10 ▸ p10)
theorem s11 : CallSpec Try.prog noGl 11 cSame := fn_spec tab_ok mixed ct_nil il_nil Try.func11 (by kernel_rfl) (vcEq11 ▸ p11)
theorem s12 : CallSpec Try.prog noGl 12 cFits := fn_spec tab_ok mixed ct_nil il_nil Try.func12 (by kernel_rfl) (vcEq12 ▸ p12)
theorem s13 : CallSpec Try.prog noGl 13 cFits := fn_spec tab_ok mixed ct_nil il_nil Try.func13 (by kernel_rfl) (vcEq13 ▸ p13)
theorem s14 : CallSpec Try.prog noGl 14 cLong := fn_spec tab_ok mixed ct_nil il_nil Try.func14 (by kernel_rfl) (vcEq14 ▸ p14)
theorem s21 : CallSpec Try.prog noGl 21 cRow := fn_spec tab_ok mixed ct_nil il_nil Try.func21 (by kernel_rfl) (vcEq21 ▸ p21)
theorem s24 : CallSpec Try.prog noGl 24 cEqRows := fn_spec tab_ok mixed (ct_cons s10 ct_nil) il_nil Try.func24 (by kernel_rfl) (vcEq24 ▸ p24)
theorem s15 : CallSpec Try.prog noGl 15 cSound := fn_spec tab_ok mixed (ct_cons s12 (ct_cons s24 (ct_cons s10 ct_nil))) il_nil Try.func15 (by kernel_rfl) (vcEq15 ▸ p15)
theorem s16 : CallSpec Try.prog noGl 16 cSound := fn_spec tab_ok mixed (ct_cons s13 (ct_cons s11 ct_nil)) il_nil Try.func16 (by kernel_rfl) (vcEq16 ▸ p16)
theorem s17 : CallSpec Try.prog noGl 17 cLeast := fn_spec tab_ok mixed (ct_cons s10 ct_nil) (il_cons Try.func25 (by kernel_rfl) (il_cons Try.func26 (by kernel_rfl) (il_cons Try.func27 (by kernel_rfl) (il_cons Try.func28 (by kernel_rfl) (il_cons Try.func29 (by kernel_rfl) il_nil))))) Try.func17 (by kernel_rfl) (vcEq17 ▸ p17)
theorem s18 : CallSpec Try.prog noGl 18 cLeast := fn_spec tab_ok mixed (ct_cons s11 ct_nil) il_nil Try.func18 (by kernel_rfl) (vcEq18 ▸ p18)
theorem s9 : CallSpec Try.prog noGl 9 cMiddle := fn_spec tab_ok mixed (ct_cons s21 (ct_cons s17 (ct_cons s10 (ct_cons s12 ct_nil)))) il_nil Try.func9 (by kernel_rfl) (vcEq9 ▸ p9)
theorem s3 : CallSpec Try.prog noGl 3 cDiffSame := fn_spec tab_ok mixed (ct_cons s9 (ct_cons s10 (ct_cons s11 ct_nil))) il_nil Try.func3 (by kernel_rfl) (vcEq3 ▸ p3)
theorem s4 : CallSpec Try.prog noGl 4 cDiffFits := fn_spec tab_ok mixed (ct_cons s9 (ct_cons s12 (ct_cons s13 ct_nil))) il_nil Try.func4 (by kernel_rfl) (vcEq4 ▸ p4)
theorem s5 : CallSpec Try.prog noGl 5 cDiffSound := fn_spec tab_ok mixed (ct_cons s14 (ct_cons s9 (ct_cons s15 (ct_cons s16 ct_nil)))) il_nil Try.func5 (by kernel_rfl) (vcEq5 ▸ p5)
theorem s6 : CallSpec Try.prog noGl 6 cDiffLeast := fn_spec tab_ok mixed (ct_cons s14 (ct_cons s9 (ct_cons s17 (ct_cons s18 (ct_cons s15 ct_nil))))) il_nil Try.func6 (by kernel_rfl) (vcEq6 ▸ p6)
end Go.Fr.C25
namespace Go.Proofs.Ytbcdgcpaojfknaa
open Go Go.Fr Go.Fr.C25 Go.ChangeShapes Go.WideShapes Go.ChangeAt Go.RowKit
theorem own : ownKnob Try.prog.godebug = none := by kernel_rfl
theorem laidOut : laidOutB Try.prog = true := by kernel_rfl
set_option maxRecDepth 100000 in
theorem diffSameLifted (os : Os) (started : os.Started) (H : Type) (enc : TypeId × Value → H) :
    ReturnsInHanded {} Try.checked os 3 .any (Rows.diffSameSpec.pre6 enc Try.prog Try.f3 Rows.diffSameRow.domain false) (Rows.diffSameSpec.post enc Try.prog Try.f3 false true false false) :=
  law_lifted (C := Try.checked) (tb := 4) own started (by kernel_rfl) Try.func3
    (ChangeSpec.witness6 (enc := enc) (C := Try.checked) false ⟨#[], #[.agg #[.slice none 0 0, .int .i64 0, .int .i64 0, .int .i64 0, .bool false, .bool false, .int .i64 0], .agg #[.slice none 0 0, .int .i64 0, .int .i64 0, .int .i64 0, .bool false, .bool false, .int .i64 0]], []⟩ 8 (by kernel_rfl) (by kernel_rfl) (by kernel_rfl) (by kernel_rfl))
    (by kernel_rfl) laidOut rfl rfl (fun ds h => by
      match ds, h with
      | [d1, d2], _ => rfl) s3 (fun y h => ⟨h.1.1.1, h.2.1.1.1⟩)
theorem diffSameOver : Rows.diffSameRow.holds Try.pinned (OpenSpec.ofChange Rows.diffSameSpec) :=
  OpenClaim.holds_of_wide 3 Try.f3 rfl rfl rfl rfl rfl rfl rfl ⟨rfl, rfl, rfl, rfl, rfl⟩ rfl rfl rfl rfl rfl (by kernel_rfl) Try.func3 (by kernel_rfl)
    (of_decide_eq_true (by kernel_rfl)) (by unfold Func.isWrapper; first | (rw [if_pos (by decide +kernel)]; kernel_rfl) | (rw [if_neg (by decide +kernel)]; exact ⟨rfl, rfl⟩))
    (fun os started H enc _ => diffSameLifted os started H enc)
theorem diffSameProved : Rows.DiffSameSaid := diffSameOver
#print axioms diffSameProved
set_option maxRecDepth 100000 in
theorem diffFitsLifted (os : Os) (started : os.Started) (H : Type) (enc : TypeId × Value → H) :
    ReturnsInHanded {} Try.checked os 4 .any (Rows.diffFitsSpec.pre6 enc Try.prog Try.f4 Rows.diffFitsRow.domain false) (Rows.diffFitsSpec.post enc Try.prog Try.f4 false true false false) :=
  law_lifted (C := Try.checked) (tb := 4) own started (by kernel_rfl) Try.func4
    (ChangeSpec.witness6 (enc := enc) (C := Try.checked) false ⟨#[], #[.agg #[.int .i64 0, .int .i64 0, .int .i64 0, .int .i64 0], .int .i64 0, .int .i64 0], []⟩ 8 (by kernel_rfl) (by kernel_rfl) (by kernel_rfl) (by kernel_rfl))
    (by kernel_rfl) laidOut rfl rfl (fun ds h => by
      match ds, h with
      | [d1, d2, d3], _ => rfl) s4 (fun y h => ⟨(wf_i64 h.2.1).2, (wf_i64 h.2.2.1).2⟩)
theorem diffFitsOver : Rows.diffFitsRow.holds Try.pinned (OpenSpec.ofChange Rows.diffFitsSpec) :=
  OpenClaim.holds_of_wide 4 Try.f4 rfl rfl rfl rfl rfl rfl rfl ⟨rfl, rfl, rfl, rfl, rfl⟩ rfl rfl rfl rfl rfl (by kernel_rfl) Try.func4 (by kernel_rfl)
    (of_decide_eq_true (by kernel_rfl)) (by unfold Func.isWrapper; first | (rw [if_pos (by decide +kernel)]; kernel_rfl) | (rw [if_neg (by decide +kernel)]; exact ⟨rfl, rfl⟩))
    (fun os started H enc _ => diffFitsLifted os started H enc)
theorem diffFitsProved : Rows.DiffFitsSaid := diffFitsOver
#print axioms diffFitsProved
set_option maxRecDepth 100000 in
theorem diffSoundLifted (os : Os) (started : os.Started) (H : Type) (enc : TypeId × Value → H) :
    ReturnsInHanded {} Try.checked os 5 .any (Rows.diffSoundSpec.pre6 enc Try.prog Try.f5 Rows.diffSoundRow.domain false) (Rows.diffSoundSpec.post enc Try.prog Try.f5 false true false false) :=
  law_lifted (C := Try.checked) (tb := 4) own started (by kernel_rfl) Try.func5
    (ChangeSpec.witness6 (enc := enc) (C := Try.checked) false ⟨#[], #[.slice none 0 0, .slice none 0 0, .agg #[.int .i64 0, .int .i64 0, .int .i64 0, .int .i64 0]], []⟩ 8 (by kernel_rfl) (by kernel_rfl) (by kernel_rfl) (by kernel_rfl))
    (by kernel_rfl) laidOut rfl rfl (fun ds h => by
      match ds, h with
      | [d1, d2, d3], _ => rfl) s5 (fun y h => ⟨⟨h.1.1, fun r hr => (h.1.2 r hr).1.1⟩, ⟨h.2.1.1, fun r hr => (h.2.1.2 r hr).1.1⟩⟩)
theorem diffSoundOver : Rows.diffSoundRow.holds Try.pinned (OpenSpec.ofChange Rows.diffSoundSpec) :=
  OpenClaim.holds_of_wide 5 Try.f5 rfl rfl rfl rfl rfl rfl rfl ⟨rfl, rfl, rfl, rfl, rfl⟩ rfl rfl rfl rfl rfl (by kernel_rfl) Try.func5 (by kernel_rfl)
    (of_decide_eq_true (by kernel_rfl)) (by unfold Func.isWrapper; first | (rw [if_pos (by decide +kernel)]; kernel_rfl) | (rw [if_neg (by decide +kernel)]; exact ⟨rfl, rfl⟩))
    (fun os started H enc _ => diffSoundLifted os started H enc)
theorem diffSoundProved : Rows.DiffSoundSaid := diffSoundOver
#print axioms diffSoundProved
set_option maxRecDepth 100000 in
theorem diffLeastLifted (os : Os) (started : os.Started) (H : Type) (enc : TypeId × Value → H) :
    ReturnsInHanded {} Try.checked os 6 .any (Rows.diffLeastSpec.pre6 enc Try.prog Try.f6 Rows.diffLeastRow.domain false) (Rows.diffLeastSpec.post enc Try.prog Try.f6 false true false false) :=
  law_lifted (C := Try.checked) (tb := 4) own started (by kernel_rfl) Try.func6
    (ChangeSpec.witness6 (enc := enc) (C := Try.checked) false ⟨#[], #[.slice none 0 0, .slice none 0 0], []⟩ 8 (by kernel_rfl) (by kernel_rfl) (by kernel_rfl) (by kernel_rfl))
    (by kernel_rfl) laidOut rfl rfl (fun ds h => by
      match ds, h with
      | [d1, d2], _ => rfl) s6 (fun y h => ⟨⟨h.1.1, fun r hr => (h.1.2 r hr).1.1⟩, ⟨h.2.1.1, fun r hr => (h.2.1.2 r hr).1.1⟩⟩)
theorem diffLeastOver : Rows.diffLeastRow.holds Try.pinned (OpenSpec.ofChange Rows.diffLeastSpec) :=
  OpenClaim.holds_of_wide 6 Try.f6 rfl rfl rfl rfl rfl rfl rfl ⟨rfl, rfl, rfl, rfl, rfl⟩ rfl rfl rfl rfl rfl (by kernel_rfl) Try.func6 (by kernel_rfl)
    (of_decide_eq_true (by kernel_rfl)) (by unfold Func.isWrapper; first | (rw [if_pos (by decide +kernel)]; kernel_rfl) | (rw [if_neg (by decide +kernel)]; exact ⟨rfl, rfl⟩))
    (fun os started H enc _ => diffLeastLifted os started H enc)
theorem diffLeastProved : Rows.DiffLeastSaid := diffLeastOver
#print axioms diffLeastProved
end Go.Proofs.Ytbcdgcpaojfknaa
