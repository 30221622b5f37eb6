/-
  Chapter 15: the laws FoldsGrow, FoldsHide. Conditions: none.
-/
import Derived.Test.YtmjhpfbpidlbcaaC15F
namespace Go.Fr.C15
open Go Go.Fr Go.Proofs

theorem sort_one (x : Span) : sortS [x] = [x] := by
  rw [← insAll_sort]
  rfl
theorem new_one {n : Int} {x : Span} (h0 : 0 ≤ n) (h1 : n ≤ 1099511627776) (hx : okS n x = true) : newF n [x] = (some (n, [x], [x], ()), 0, ()) := by
  have he : errF n [] [x] = 0 := by rw [err_on hx (by simp)]; rfl
  unfold newF
  rw [if_neg (by omega), if_neg (by simp), if_pos he, sort_one]
  rfl
/-- A fold, where something is inserted. -/
def grown (x : Span) (c d : Int) : Span := (if c ≤ x.1 then x.1 + d else x.1, if c < x.2.1 then x.2.1 + d else x.2.1, ())
theorem grow {n c d : Int} {x : Span} (hn : n ≤ 1073741824) (hc : 0 ≤ c) (hc2 : c ≤ n) (hd : 1 ≤ d) (hd2 : d ≤ 1000) (hx : okS n x = true) :
    shiftF (some (n, [x], [x], ())) [((c, c, ()), (c, c + d, ()), ())] = (some (n + d, [grown x c d], [grown x c d], ()), 0, ()) := by
  have ox := okS_iff.1 hx
  have hnorm : normal [((c, c, ()), (c, c + d, ()), ())] = true := by
    refine normFrom_cons.2 ⟨okStep_iff.2 ⟨⟨hc, Int.le_refl _, ?_⟩, ⟨hc, ?_, ?_⟩, ?_, rfl, hc, .inl rfl⟩, rfl⟩
    · show c ≤ 1099511627776; omega
    · show c ≤ c + d; omega
    · show c + d ≤ 1099511627776; omega
    · show ¬ (c = c ∧ c = c + d); omega
  have hdel : delta [((c, c, ()), (c, c + d, ()), ())] = d := by
    simp only [delta, List.foldl_cons, List.foldl_nil, size, w64]
    simp only [wrap_eq]
    omega
  have hend : endOf [((c, c, ()), (c, c + d, ()), ())] = c := rfl
  have hw : w64 (n + d) = n + d := by unfold w64; rw [wrap_eq]; omega
  have hmove : moveS [((c, c, ()), (c, c + d, ()), ())] x = grown x c d := by
    unfold moveS grown
    refine span_ext ?_ ?_
    · show (if x.1 < c then x.1 + 0 else if x.1 ≤ c then (if (1 : Int) = 0 then c else c + d) else x.1 + (c + d - c)) = if c ≤ x.1 then x.1 + d else x.1
      rw [if_neg (by decide : ¬ (1 : Int) = 0)]
      split <;> (try split) <;> (try split) <;> omega
    · show (if x.2.1 < c then x.2.1 + 0 else if x.2.1 ≤ c then (if (0 : Int) = 0 then c else c + d) else x.2.1 + (c + d - c)) = if c < x.2.1 then x.2.1 + d else x.2.1
      rw [if_pos (rfl : (0 : Int) = 0)]
      split <;> (try split) <;> (try split) <;> omega
  have hg1 : (grown x c d).1 = if c ≤ x.1 then x.1 + d else x.1 := rfl
  have hg2 : (grown x c d).2.1 = if c < x.2.1 then x.2.1 + d else x.2.1 := rfl
  have hok : okS (n + d) (grown x c d) = true := by
    rw [okS_iff, hg1, hg2]
    split <;> split <;> omega
  have og := okS_iff.1 hok
  unfold shiftF
  rw [if_neg (by rw [hnorm]; decide), hend, hdel]
  rw [if_neg (show ¬ (c > lenF (some (n, [x], [x], ())) ∨ w64 (lenF (some (n, [x], [x], ())) + d) > 1099511627776) from by
    show ¬ (c > n ∨ w64 (n + d) > 1099511627776)
    rw [hw]; omega)]
  have hs : shiftL [((c, c, ()), (c, c + d, ()), ())] (allF (some (n, [x], [x], ()))) = [grown x c d] := by
    show shiftSt _ [] x = _
    rw [st_yes (by rw [hmove]; simp; omega), hmove]
    rfl
  show newF (w64 (n + d)) _ = _
  rw [hs, hw]
  exact new_one (by omega) (by omega) hok
theorem p5 : vc5 := by
  unfold vc5
  simp only [eq_self, true_and, and_true, decide_eq_true_eq, decide_eq_false_iff_not, beq_iff_eq, beq_eq_false_iff_ne, bne_iff_ne, bne_eq_false_iff_eq, Bool.not_eq_true', Bool.not_eq_false', ne_eq, imp_true_iff, implies_true]
  rintro ⟨n, x, ⟨c, d, ⟨⟩⟩, ⟨⟩⟩
  simp only [maxLen_eq, d33]
  intro _ h0 h1
  refine ⟨by omega, fun h2 => ⟨by omega, fun h3 => ⟨by omega, fun h4 => ⟨by omega, fun h5 => ?_⟩⟩⟩⟩
  have hw : IntKind.i64.wrap (c + d) = c + d := by rw [wrap_eq]; omega
  rw [hw]
  rcases new_cases n [x] with ⟨e, he, e1, e2⟩ | ⟨e1, e2, e3, e4, e5, e6⟩
  · rw [e1, e2]
    refine ⟨by simp, fun _ => ⟨by simp, fun h => absurd h he⟩, fun h => absurd h he⟩
  · have hx : okS n x = true := e6 x (by simp)
    have ox := okS_iff.1 hx
    rw [e1, e2, sort_one]
    have hh : hideL [x] = [x] := rfl
    rw [hh]
    have hg := grow (c := c) (d := d) (show n ≤ 1073741824 by omega) (by omega) (by omega) (by omega) (by omega) hx
    rw [hg]
    have ha : allF (some (n + d, [grown x c d], [grown x c d], ())) = [grown x c d] := rfl
    have hg0 : List.getD [grown x c d] (Int.toNat 0) zS = grown x c d := rfl
    have w1 : IntKind.i64.wrap (x.1 + d) = x.1 + d := by rw [wrap_eq]; omega
    have w2 : IntKind.i64.wrap (x.2.1 + d) = x.2.1 + d := by rw [wrap_eq]; omega
    rw [ha, hg0, w1, w2]
    have okf : okF (some (n, [x], [x], ())) ∧ lenF (some (n, [x], [x], ())) ≤ (1099511627776 : Int) ∧ (0 : Int) ≤ lenF (some (n, [x], [x], ())) :=
      ⟨⟨by simp [allF], by simp [hidF], fun y hy => by rw [List.mem_singleton.1 hy]; exact hx⟩, show n ≤ 1099511627776 by omega, show 0 ≤ n by omega⟩
    have same : ∀ u : Span, u = grown x c d → ¬ Ty.beq t33 (grown x c d) u = false := fun u hu h => (beqS_f _ _).1 h hu.symm
    refine ⟨by simp, fun h => absurd rfl h, fun _ => ⟨fun h => (by cases h), fun _ => ⟨by omega, by omega, by omega, by omega, by omega, ⟨okf.1, okf.2.1, okf.2.2, by simp⟩, fun h => absurd rfl h, fun _ => ⟨fun h => (by cases h), fun _ => ⟨by simp, fun h => absurd (by simp) h, fun _ => ?_⟩⟩⟩⟩⟩
    refine ⟨by omega, fun g1 => ⟨by omega, by omega, fun g2 => ⟨by omega, by simp, fun hb => (same _ (span_ext ?_ ?_) hb).elim⟩, fun g2 => ⟨by simp, fun hb => (same _ (span_ext ?_ ?_) hb).elim⟩⟩, fun g1 => ⟨by omega, fun g2 => ⟨by omega, by simp, fun hb => (same _ (span_ext ?_ ?_) hb).elim⟩, fun g2 => ⟨by simp, fun hb => (same _ (span_ext ?_ ?_) hb).elim⟩⟩⟩
    all_goals
      simp only [grown]
      first
        | omega
        | (split <;> omega)
end Go.Fr.C15
