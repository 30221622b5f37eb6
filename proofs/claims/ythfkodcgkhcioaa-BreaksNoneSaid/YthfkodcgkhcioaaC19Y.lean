/-
  Chapter C19: contracts of functions; rows of laws. Conditions: none.
-/
import Derived.Test.YthfkodcgkhcioaaC19E
import Derived.Test.YthfkodcgkhcioaaC19R
import Derived.Test.YthfkodcgkhcioaaRows
namespace Go.Fr.C19
open Go Go.Fr Go.Proofs
theorem s24 : CallSpec Try.prog noGl 24 cBlank := fn_spec tab_ok mixed ct_nil il_nil Try.func24 (by kernel_rfl) (vcEq24 ▸ p24)
theorem s25 : CallSpec Try.prog noGl 25 cBlank := fn_spec tab_ok mixed ct_nil il_nil Try.func25 (by kernel_rfl) (vcEq25 ▸ p25)
theorem s19 : CallSpec Try.prog noGl 19 cWidth := fn_spec tab_ok mixed ct_nil il_nil Try.func19 (by kernel_rfl) (vcEq19 ▸ p19)
theorem s20 : CallSpec Try.prog noGl 20 cBoundary := fn_spec tab_ok mixed (ct_cons s25 ct_nil) il_nil Try.func20 (by kernel_rfl) (vcEq20 ▸ p20)
theorem s22 : CallSpec Try.prog noGl 22 cBoundary := fn_spec tab_ok mixed (ct_cons s24 ct_nil) il_nil Try.func22 (by kernel_rfl) (vcEq22 ▸ p22)
theorem s21 : CallSpec Try.prog noGl 21 cFit := fn_spec tab_ok mixed ct_nil il_nil Try.func21 (by kernel_rfl) (vcEq21 ▸ p21)
theorem s23 : CallSpec Try.prog noGl 23 cFit := fn_spec tab_ok mixed (ct_cons s19 ct_nil) il_nil Try.func23 (by kernel_rfl) (vcEq23 ▸ p23)
theorem s12 : CallSpec Try.prog noGl 12 cTakes := fn_spec tab_ok mixed (ct_cons s21 (ct_cons s22 ct_nil)) il_nil Try.func12 (by kernel_rfl) (vcEq12 ▸ p12)
theorem s13 : CallSpec Try.prog noGl 13 cTakes := fn_spec tab_ok mixed (ct_cons s23 (ct_cons s20 ct_nil)) il_nil Try.func13 (by kernel_rfl) (vcEq13 ▸ p13)
theorem s14 : CallSpec Try.prog noGl 14 cIndent := fn_spec tab_ok mixed (ct_cons s24 ct_nil) il_nil Try.func14 (by kernel_rfl) (vcEq14 ▸ p14)
theorem s15 : CallSpec Try.prog noGl 15 cIndent := fn_spec tab_ok mixed (ct_cons s25 (ct_cons s19 ct_nil)) il_nil Try.func15 (by kernel_rfl) (vcEq15 ▸ p15)
theorem s29 : CallSpec Try.prog noGl 29 cStart := fn_spec tab_ok mixed (ct_cons s12 (ct_cons s24 (ct_cons s21 ct_nil))) il_nil Try.func29 (by kernel_rfl) (vcEq29 ▸ p29)
theorem s17 : CallSpec Try.prog noGl 17 cAll := s17_of s12 s29
theorem s27 : CallSpec Try.prog noGl 27 cStart := fn_spec tab_ok mixed (ct_cons s13 (ct_cons s25 (ct_cons s23 ct_nil))) il_nil Try.func27 (by kernel_rfl) (vcEq27 ▸ p27)
theorem s18 : CallSpec Try.prog noGl 18 cRAll := fn_spec tab_ok mixed (ct_cons s27 (ct_cons s13 ct_nil)) il_nil Try.func18 (by kernel_rfl) (vcEq18 ▸ p18)
theorem s16 : CallSpec Try.prog noGl 16 cInts := fn_spec tab_ok mixed ct_nil il_nil Try.func16 (by kernel_rfl) (vcEq16 ▸ p16)
theorem s10 : CallSpec Try.prog noGl 10 cRight := fn_spec tab_ok mixed ct_nil il_nil Try.func10 (by kernel_rfl) (vcEq10 ▸ p10)
theorem s11 : CallSpec Try.prog noGl 11 cTwo := fn_spec tab_ok mixed (ct_cons s12 (ct_cons s17 (ct_cons s16 (ct_cons s14 ct_nil)))) il_nil Try.func11 (by kernel_rfl) (vcEq11 ▸ p11)
theorem s3 : CallSpec Try.prog noGl 3 cBreaksTakes := fn_spec tab_ok mixed (ct_cons s10 (ct_cons s11 (ct_cons s12 (ct_cons s13 (ct_cons s14 (ct_cons s15 ct_nil)))))) il_nil Try.func3 (by kernel_rfl) (vcEq3 ▸ p3)
theorem s4 : CallSpec Try.prog noGl 4 cBreaksAll := fn_spec tab_ok mixed (ct_cons s10 (ct_cons s11 (ct_cons s17 (ct_cons s18 (ct_cons s16 ct_nil))))) il_nil Try.func4 (by kernel_rfl) (vcEq4 ▸ p4)
theorem s5 : CallSpec Try.prog noGl 5 cBreaksWhole := fn_spec tab_ok mixed (ct_cons s10 (ct_cons s11 (ct_cons s17 ct_nil))) il_nil Try.func5 (by kernel_rfl) (vcEq5 ▸ p5)
theorem s6 : CallSpec Try.prog noGl 6 cBreaksFit := fn_spec tab_ok mixed (ct_cons s10 (ct_cons s11 (ct_cons s17 (ct_cons s19 ct_nil)))) il_nil Try.func6 (by kernel_rfl) (vcEq6 ▸ p6)
theorem s7 : CallSpec Try.prog noGl 7 cBreaksWords := fn_spec tab_ok mixed (ct_cons s10 (ct_cons s11 (ct_cons s12 (ct_cons s20 (ct_cons s19 ct_nil))))) il_nil Try.func7 (by kernel_rfl) (vcEq7 ▸ p7)
theorem s8 : CallSpec Try.prog noGl 8 cBreaksMore := fn_spec tab_ok mixed (ct_cons s10 (ct_cons s11 (ct_cons s12 ct_nil))) il_nil Try.func8 (by kernel_rfl) (vcEq8 ▸ p8)
theorem s9 : CallSpec Try.prog noGl 9 cBreaksNone := fn_spec tab_ok mixed (ct_cons s12 (ct_cons s14 (ct_cons s17 (ct_cons s16 (ct_cons s11 ct_nil))))) il_nil Try.func9 (by kernel_rfl) (vcEq9 ▸ p9)
end Go.Fr.C19
namespace Go.Proofs.Ythfkodcgkhcioaa
open Go Go.Fr Go.Fr.C19 Go.ChangeShapes Go.WideShapes Go.ChangeAt Go.RowKit
theorem own : ownKnob Try.prog.godebug = none := by kernel_rfl
theorem laidOut : laidOutB Try.prog = true := by kernel_rfl
set_option maxRecDepth 100000 in
theorem breaksTakesLifted (os : Os) (started : os.Started) (H : Type) (enc : TypeId × Value → H) :
    ReturnsInHanded {} Try.checked os 3 .any (Rows.breaksTakesSpec.pre6 enc Try.prog Try.f3 Rows.breaksTakesRow.domain false) (Rows.breaksTakesSpec.post enc Try.prog Try.f3 false true false false) :=
  law_lifted (C := Try.checked) (tb := 4) own started (by kernel_rfl) Try.func3
    (ChangeSpec.witness6 (enc := enc) (C := Try.checked) false ⟨#[], #[.slice none 0 0, .int .i64 0], []⟩ 8 (by kernel_rfl) (by kernel_rfl) (by kernel_rfl) (by kernel_rfl))
    (by kernel_rfl) laidOut rfl rfl (fun ds h => by
      match ds, h with
      | [d1, d2], _ => rfl) s3 (fun y h => h.1.1)
theorem breaksTakesOver : Rows.breaksTakesRow.holds Try.pinned (OpenSpec.ofChange Rows.breaksTakesSpec) :=
  OpenClaim.holds_of_wide 3 Try.f3 rfl rfl rfl rfl rfl rfl rfl ⟨rfl, rfl, rfl, rfl, rfl⟩ rfl rfl rfl rfl rfl (by kernel_rfl) Try.func3 (by kernel_rfl)
    (of_decide_eq_true (by kernel_rfl)) (by unfold Func.isWrapper; first | (rw [if_pos (by decide +kernel)]; kernel_rfl) | (rw [if_neg (by decide +kernel)]; exact ⟨rfl, rfl⟩))
    (fun os started H enc _ => breaksTakesLifted os started H enc)
theorem breaksTakesProved : Rows.BreaksTakesSaid := breaksTakesOver
#print axioms breaksTakesProved
set_option maxRecDepth 100000 in
theorem breaksAllLifted (os : Os) (started : os.Started) (H : Type) (enc : TypeId × Value → H) :
    ReturnsInHanded {} Try.checked os 4 .any (Rows.breaksAllSpec.pre6 enc Try.prog Try.f4 Rows.breaksAllRow.domain false) (Rows.breaksAllSpec.post enc Try.prog Try.f4 false true false false) :=
  law_lifted (C := Try.checked) (tb := 4) own started (by kernel_rfl) Try.func4
    (ChangeSpec.witness6 (enc := enc) (C := Try.checked) false ⟨#[], #[.slice none 0 0, .agg #[.int .i64 0, .int .i64 0]], []⟩ 8 (by kernel_rfl) (by kernel_rfl) (by kernel_rfl) (by kernel_rfl))
    (by kernel_rfl) laidOut rfl rfl (fun ds h => by
      match ds, h with
      | [d1, d2], _ => rfl) s4 (fun y h => h.1.1)
theorem breaksAllOver : Rows.breaksAllRow.holds Try.pinned (OpenSpec.ofChange Rows.breaksAllSpec) :=
  OpenClaim.holds_of_wide 4 Try.f4 rfl rfl rfl rfl rfl rfl rfl ⟨rfl, rfl, rfl, rfl, rfl⟩ rfl rfl rfl rfl rfl (by kernel_rfl) Try.func4 (by kernel_rfl)
    (of_decide_eq_true (by kernel_rfl)) (by unfold Func.isWrapper; first | (rw [if_pos (by decide +kernel)]; kernel_rfl) | (rw [if_neg (by decide +kernel)]; exact ⟨rfl, rfl⟩))
    (fun os started H enc _ => breaksAllLifted os started H enc)
theorem breaksAllProved : Rows.BreaksAllSaid := breaksAllOver
#print axioms breaksAllProved
set_option maxRecDepth 100000 in
theorem breaksWholeLifted (os : Os) (started : os.Started) (H : Type) (enc : TypeId × Value → H) :
    ReturnsInHanded {} Try.checked os 5 .any (Rows.breaksWholeSpec.pre6 enc Try.prog Try.f5 Rows.breaksWholeRow.domain false) (Rows.breaksWholeSpec.post enc Try.prog Try.f5 false true false false) :=
  law_lifted (C := Try.checked) (tb := 4) own started (by kernel_rfl) Try.func5
    (ChangeSpec.witness6 (enc := enc) (C := Try.checked) false ⟨#[], #[.slice none 0 0, .agg #[.int .i64 0, .int .i64 0]], []⟩ 8 (by kernel_rfl) (by kernel_rfl) (by kernel_rfl) (by kernel_rfl))
    (by kernel_rfl) laidOut rfl rfl (fun ds h => by
      match ds, h with
      | [d1, d2], _ => rfl) s5 (fun y h => h.1.1)
theorem breaksWholeOver : Rows.breaksWholeRow.holds Try.pinned (OpenSpec.ofChange Rows.breaksWholeSpec) :=
  OpenClaim.holds_of_wide 5 Try.f5 rfl rfl rfl rfl rfl rfl rfl ⟨rfl, rfl, rfl, rfl, rfl⟩ rfl rfl rfl rfl rfl (by kernel_rfl) Try.func5 (by kernel_rfl)
    (of_decide_eq_true (by kernel_rfl)) (by unfold Func.isWrapper; first | (rw [if_pos (by decide +kernel)]; kernel_rfl) | (rw [if_neg (by decide +kernel)]; exact ⟨rfl, rfl⟩))
    (fun os started H enc _ => breaksWholeLifted os started H enc)
theorem breaksWholeProved : Rows.BreaksWholeSaid := breaksWholeOver
#print axioms breaksWholeProved
set_option maxRecDepth 100000 in
theorem breaksFitLifted (os : Os) (started : os.Started) (H : Type) (enc : TypeId × Value → H) :
    ReturnsInHanded {} Try.checked os 6 .any (Rows.breaksFitSpec.pre6 enc Try.prog Try.f6 Rows.breaksFitRow.domain false) (Rows.breaksFitSpec.post enc Try.prog Try.f6 false true false false) :=
  law_lifted (C := Try.checked) (tb := 4) own started (by kernel_rfl) Try.func6
    (ChangeSpec.witness6 (enc := enc) (C := Try.checked) false ⟨#[], #[.slice none 0 0, .agg #[.int .i64 0, .int .i64 0]], []⟩ 8 (by kernel_rfl) (by kernel_rfl) (by kernel_rfl) (by kernel_rfl))
    (by kernel_rfl) laidOut rfl rfl (fun ds h => by
      match ds, h with
      | [d1, d2], _ => rfl) s6 (fun y h => h.1.1)
theorem breaksFitOver : Rows.breaksFitRow.holds Try.pinned (OpenSpec.ofChange Rows.breaksFitSpec) :=
  OpenClaim.holds_of_wide 6 Try.f6 rfl rfl rfl rfl rfl rfl rfl ⟨rfl, rfl, rfl, rfl, rfl⟩ rfl rfl rfl rfl rfl (by kernel_rfl) Try.func6 (by kernel_rfl)
    (of_decide_eq_true (by kernel_rfl)) (by unfold Func.isWrapper; first | (rw [if_pos (by decide +kernel)]; kernel_rfl) | (rw [if_neg (by decide +kernel)]; exact ⟨rfl, rfl⟩))
    (fun os started H enc _ => breaksFitLifted os started H enc)
theorem breaksFitProved : Rows.BreaksFitSaid := breaksFitOver
#print axioms breaksFitProved
set_option maxRecDepth 100000 in
theorem breaksWordsLifted (os : Os) (started : os.Started) (H : Type) (enc : TypeId × Value → H) :
    ReturnsInHanded {} Try.checked os 7 .any (Rows.breaksWordsSpec.pre6 enc Try.prog Try.f7 Rows.breaksWordsRow.domain false) (Rows.breaksWordsSpec.post enc Try.prog Try.f7 false true false false) :=
  law_lifted (C := Try.checked) (tb := 4) own started (by kernel_rfl) Try.func7
    (ChangeSpec.witness6 (enc := enc) (C := Try.checked) false ⟨#[], #[.slice none 0 0, .int .i64 0], []⟩ 8 (by kernel_rfl) (by kernel_rfl) (by kernel_rfl) (by kernel_rfl))
    (by kernel_rfl) laidOut rfl rfl (fun ds h => by
      match ds, h with
      | [d1, d2], _ => rfl) s7 (fun y h => h.1.1)
theorem breaksWordsOver : Rows.breaksWordsRow.holds Try.pinned (OpenSpec.ofChange Rows.breaksWordsSpec) :=
  OpenClaim.holds_of_wide 7 Try.f7 rfl rfl rfl rfl rfl rfl rfl ⟨rfl, rfl, rfl, rfl, rfl⟩ rfl rfl rfl rfl rfl (by kernel_rfl) Try.func7 (by kernel_rfl)
    (of_decide_eq_true (by kernel_rfl)) (by unfold Func.isWrapper; first | (rw [if_pos (by decide +kernel)]; kernel_rfl) | (rw [if_neg (by decide +kernel)]; exact ⟨rfl, rfl⟩))
    (fun os started H enc _ => breaksWordsLifted os started H enc)
theorem breaksWordsProved : Rows.BreaksWordsSaid := breaksWordsOver
#print axioms breaksWordsProved
set_option maxRecDepth 100000 in
theorem breaksMoreLifted (os : Os) (started : os.Started) (H : Type) (enc : TypeId × Value → H) :
    ReturnsInHanded {} Try.checked os 8 .any (Rows.breaksMoreSpec.pre6 enc Try.prog Try.f8 Rows.breaksMoreRow.domain false) (Rows.breaksMoreSpec.post enc Try.prog Try.f8 false true false false) :=
  law_lifted (C := Try.checked) (tb := 4) own started (by kernel_rfl) Try.func8
    (ChangeSpec.witness6 (enc := enc) (C := Try.checked) false ⟨#[], #[.slice none 0 0, .int .i64 0, .int .i64 0], []⟩ 8 (by kernel_rfl) (by kernel_rfl) (by kernel_rfl) (by kernel_rfl))
    (by kernel_rfl) laidOut rfl rfl (fun ds h => by
      match ds, h with
      | [d1, d2, d3], _ => rfl) s8 (fun y h => ⟨h.1.1, wf_i64 h.2.1, wf_i64 h.2.2.1⟩)
theorem breaksMoreOver : Rows.breaksMoreRow.holds Try.pinned (OpenSpec.ofChange Rows.breaksMoreSpec) :=
  OpenClaim.holds_of_wide 8 Try.f8 rfl rfl rfl rfl rfl rfl rfl ⟨rfl, rfl, rfl, rfl, rfl⟩ rfl rfl rfl rfl rfl (by kernel_rfl) Try.func8 (by kernel_rfl)
    (of_decide_eq_true (by kernel_rfl)) (by unfold Func.isWrapper; first | (rw [if_pos (by decide +kernel)]; kernel_rfl) | (rw [if_neg (by decide +kernel)]; exact ⟨rfl, rfl⟩))
    (fun os started H enc _ => breaksMoreLifted os started H enc)
theorem breaksMoreProved : Rows.BreaksMoreSaid := breaksMoreOver
#print axioms breaksMoreProved
set_option maxRecDepth 100000 in
theorem breaksNoneLifted (os : Os) (started : os.Started) (H : Type) (enc : TypeId × Value → H) :
    ReturnsInHanded {} Try.checked os 9 .any (Rows.breaksNoneSpec.pre6 enc Try.prog Try.f9 Rows.breaksNoneRow.domain false) (Rows.breaksNoneSpec.post enc Try.prog Try.f9 false true false false) :=
  law_lifted (C := Try.checked) (tb := 4) own started (by kernel_rfl) Try.func9
    (ChangeSpec.witness6 (enc := enc) (C := Try.checked) false ⟨#[], #[.agg #[.int .i64 0, .int .i64 0]], []⟩ 8 (by kernel_rfl) (by kernel_rfl) (by kernel_rfl) (by kernel_rfl))
    (by kernel_rfl) laidOut rfl rfl (fun ds h => by
      match ds, h with
      | [d1], _ => rfl) s9 (fun y h => trivial)
theorem breaksNoneOver : Rows.breaksNoneRow.holds Try.pinned (OpenSpec.ofChange Rows.breaksNoneSpec) :=
  OpenClaim.holds_of_wide 9 Try.f9 rfl rfl rfl rfl rfl rfl rfl ⟨rfl, rfl, rfl, rfl, rfl⟩ rfl rfl rfl rfl rfl (by kernel_rfl) Try.func9 (by kernel_rfl)
    (of_decide_eq_true (by kernel_rfl)) (by unfold Func.isWrapper; first | (rw [if_pos (by decide +kernel)]; kernel_rfl) | (rw [if_neg (by decide +kernel)]; exact ⟨rfl, rfl⟩))
    (fun os started H enc _ => breaksNoneLifted os started H enc)
theorem breaksNoneProved : Rows.BreaksNoneSaid := breaksNoneOver
#print axioms breaksNoneProved
end Go.Proofs.Ythfkodcgkhcioaa
