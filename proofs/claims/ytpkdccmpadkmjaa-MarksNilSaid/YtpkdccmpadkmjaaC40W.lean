/-
  Chapter 40: proofs of the conditions: edges. Conditions: none.
-/
import Derived.Test.YtpkdccmpadkmjaaC40U
namespace Go.Fr.C40
open Go Go.Fr Go.Proofs

theorem ups_drop {f : Int → Int} {last : Int} {L : List Int} {k : Nat} (h : k < L.length) : ups f last (L.drop k) = if f (L.getD k 0) = last then ups f last (L.drop (k + 1)) else L.getD k 0 :: ups f (f (L.getD k 0)) (L.drop (k + 1)) := by
  rw [drop_cons 0 h]
  rfl
theorem points_take {l : List Mark} {k : Nat} (h : k < l.length) : points (l.take (k + 1)) = points (l.take k) ++ [(l.getD k zM).1, (l.getD k zM).2.1] := by
  rw [← take_snoc zM h]
  simp [points]
theorem points_len (l : List Mark) : (points l).length = 2 * l.length := by
  induction l with
  | nil => rfl
  | cons m l ih =>
    have : points (m :: l) = [m.1, m.2.1] ++ points l := by simp [points]
    rw [this, List.length_append, ih]
    simp
    omega
theorem compact_le (zs : List Int) : (compactL zs).length ≤ zs.length := by
  cases zs with
  | nil => exact Nat.le_refl _
  | cons a r =>
    have : ∀ (r : List Int) (p : Int), (dropRuns p r).length ≤ r.length := by
      intro r
      induction r with
      | nil => intro p; exact Nat.le_refl _
      | cons b r ih => intro p; have := ih b; simp only [dropRuns]; split <;> simp <;> omega
    have := this r a
    simp [compactL]
    omega
theorem sort_len (l : List Int) : (sortL l).length = l.length := List.length_mergeSort l
theorem p15 : vc15 := by
  unfold vc15
  simp only [eq_self, true_and, and_true, decide_eq_true_eq, decide_eq_false_iff_not, beq_iff_eq, beq_eq_false_iff_ne, bne_iff_ne, bne_eq_false_iff_eq, Bool.not_eq_true', Bool.not_eq_false', ne_eq, imp_true_iff, implies_true]
  rintro ⟨s, ⟨⟩⟩
  simp only
  intro hok
  have hl : (allM s).length ≤ 200 := hok.1
  have dr : Ty.dflt rCompact.t = (0 : Int) := rfl
  simp only [d60, dr]
  have hpts := points_len (allM s)
  have hE : edgesL (allM s) = ups (atL (allM s)) 0 (compactL (sortL (points (allM s)))) := rfl
  refine ⟨by omega, fun z => ∃ k : Nat, k ≤ (allM s).length ∧ z.2.1 = (k : Int) ∧ z.1 = points ((allM s).take k), fun z => (allM s).length - z.2.1.toNat, ⟨0, Nat.zero_le _, rfl, rfl⟩, ?_⟩
  rintro a i ⟨k, hk, hi, hs⟩
  simp only at hi hs
  subst hi hs
  refine ⟨fun h => ?_, fun h => ?_⟩
  · have hlt : k < (allM s).length := by omega
    have hw : IntKind.i64.wrap ((k : Int) + 1) = ((k + 1 : Nat) : Int) := wrap_succ (by omega)
    have hpl : (points ((allM s).take k)).length ≤ 400 := by rw [points_len, List.length_take]; omega
    rw [toNat_cast, hw, maxLen_eq]
    simp only [List.length_cons, List.length_nil]
    refine ⟨⟨by omega, h⟩, by omega, by omega, ⟨k + 1, hlt, rfl, (points_take hlt).symm⟩, ?_⟩
    rw [toNat_cast]; omega
  · have hkl : k = (allM s).length := by omega
    subst hkl
    rw [List.take_length]
    refine ⟨by omega, fun ys hys => ?_⟩
    subst hys
    have h1 := sort_len (points (allM s))
    refine ⟨by omega, fun zs hzs => ?_⟩
    have h2 : zs.length ≤ 400 := by
      rw [hzs]
      have := compact_le (sortL (points (allM s)))
      omega
    rw [← hzs] at hE
    refine ⟨fun z => ∃ k : Nat, k ≤ zs.length ∧ z.2.2.1 = (k : Int) ∧ z.1.length ≤ k ∧ z.1 ++ ups (atL (allM s)) z.2.1 (zs.drop k) = edgesL (allM s), fun z => zs.length - z.2.2.1.toNat, ⟨0, Nat.zero_le _, rfl, Nat.le_refl _, by rw [hE]; rfl⟩, ?_⟩
    rintro out last i ⟨k, hk, hi, hol, hs⟩
    simp only at hi hs hol
    subst hi
    refine ⟨fun h => ?_, fun h => ?_⟩
    · have hlt : k < zs.length := by omega
      have hw : IntKind.i64.wrap ((k : Int) + 1) = ((k + 1 : Nat) : Int) := wrap_succ (by omega)
      rw [ups_drop hlt] at hs
      rw [toNat_cast, hw, maxLen_eq]
      have hdec : zs.length - (((k + 1 : Nat) : Int)).toNat < zs.length - k := by rw [toNat_cast]; omega
      refine ⟨⟨by omega, h⟩, hok, fun g => ?_, fun g => ?_⟩
      · rw [if_neg g] at hs
        simp only [List.length_singleton]
        refine ⟨by omega, by omega, ⟨k + 1, hlt, rfl, by show (out ++ _).length ≤ k + 1; rw [List.length_append]; simp; omega, ?_⟩, hdec⟩
        rw [← hs]
        simp
      · rw [if_pos g] at hs
        exact ⟨⟨k + 1, hlt, rfl, by show out.length ≤ k + 1; omega, hs⟩, hdec⟩
    · have : k = zs.length := by omega
      subst this
      rw [List.drop_length] at hs
      rw [← hs]
      simp [ups]
theorem p17 : vc17 := by
  unfold vc17
  simp only [eq_self, true_and, and_true, decide_eq_true_eq, decide_eq_false_iff_not, beq_iff_eq, beq_eq_false_iff_ne, bne_iff_ne, bne_eq_false_iff_eq, Bool.not_eq_true', Bool.not_eq_false', ne_eq, imp_true_iff, implies_true]
  rintro ⟨w, ⟨⟩⟩
  simp only
  rintro ⟨hl, h0, h1⟩
  replace h0 : (0 : Int) ≤ w.1 := h0
  replace h1 : w.1 ≤ (300 : Int) := h1
  obtain ⟨R, hR⟩ : ∃ R : List Int, R = (List.range (w.1 + 1).toNat).map fun (i : Nat) => ((i : Nat) : Int) := ⟨_, rfl⟩
  have hRl : R.length = (w.1 + 1).toNat := by rw [hR]; simp
  have hE : refEdges w.1 w.2.1 = ups (atL w.2.1) 0 R := by rw [hR]; rfl
  have hRg : ∀ k, k < R.length → R.getD k 0 = (k : Int) := fun k hk => by
    rw [getD_of 0 hk]
    simp [hR]
  refine ⟨fun z => ∃ k : Nat, k ≤ R.length ∧ z.2.2.1 = (k : Int) ∧ z.1.length ≤ k ∧ z.1 ++ ups (atL w.2.1) z.2.1 (R.drop k) = refEdges w.1 w.2.1, fun z => R.length - z.2.2.1.toNat, ⟨0, Nat.zero_le _, rfl, Nat.le_refl _, by rw [hE]; rfl⟩, ?_⟩
  rintro out last i ⟨k, hk, hi, hol, hs⟩
  simp only at hi hs hol
  subst hi
  refine ⟨fun h => ?_, fun h => ?_⟩
  · have hlt : k < R.length := by omega
    have hw : IntKind.i64.wrap ((k : Int) + 1) = ((k + 1 : Nat) : Int) := wrap_succ (by omega)
    rw [ups_drop hlt, hRg k hlt] at hs
    rw [hw, maxLen_eq]
    have hdec : R.length - (((k + 1 : Nat) : Int)).toNat < R.length - (k : Int).toNat := by rw [toNat_cast, toNat_cast]; omega
    refine ⟨hl, fun g => ?_, fun g => ?_⟩
    · rw [if_neg g] at hs
      simp only [List.length_singleton]
      refine ⟨by omega, by omega, ⟨k + 1, hlt, rfl, by show (out ++ _).length ≤ k + 1; rw [List.length_append]; simp; omega, ?_⟩, hdec⟩
      rw [← hs]
      simp
    · rw [if_pos g] at hs
      exact ⟨⟨k + 1, hlt, rfl, by show out.length ≤ k + 1; omega, by rw [g]; exact hs⟩, hdec⟩
  · have : k = R.length := by omega
    subst this
    rw [List.drop_length] at hs
    rw [← hs]
    simp [ups]
theorem sort4 : sortL [0, 4, 2, 6] = [0, 2, 4, 6] := by
  simp [sortL, List.mergeSort, List.merge, List.MergeSort.Internal.splitInTwo]
theorem p8 : vc8 := by
  unfold vc8
  have hN : newM (9 : Int) [((0 : Int), (4 : Int), (1 : Int), (0 : Int), ()), ((2 : Int), (6 : Int), (2 : Int), (1 : Int), ())] = (some (9, [(0, 4, 1, 0, ()), (2, 6, 2, 1, ())], ()), 0, ()) := by kernel_rfl
  have hE : edgesL [((0 : Int), (4 : Int), (1 : Int), (0 : Int), ()), ((2 : Int), (6 : Int), (2 : Int), (1 : Int), ())] = [0, 2, 6] := by
    have hp : points [((0 : Int), (4 : Int), (1 : Int), (0 : Int), ()), ((2 : Int), (6 : Int), (2 : Int), (1 : Int), ())] = [0, 4, 2, 6] := by kernel_rfl
    unfold edgesL
    rw [hp, sort4]
    decide +kernel
  rintro ⟨⟩ _
  rw [hN]
  have ha : allM (some ((9 : Int), [((0 : Int), (4 : Int), (1 : Int), (0 : Int), ()), ((2 : Int), (6 : Int), (2 : Int), (1 : Int), ())], ())) = [(0, 4, 1, 0, ()), (2, 6, 2, 1, ())] := rfl
  have hok : okSet (some ((9 : Int), [((0 : Int), (4 : Int), (1 : Int), (0 : Int), ()), ((2 : Int), (6 : Int), (2 : Int), (1 : Int), ())], ())) := by
    refine ⟨by rw [ha]; decide, fun m hm => ?_⟩
    rw [ha] at hm
    simp only [List.mem_cons, List.not_mem_nil, or_false] at hm
    rcases hm with rfl | rfl <;> kernel_rfl
  have h3 : atL [((0 : Int), (4 : Int), (1 : Int), (0 : Int), ()), ((2 : Int), (6 : Int), (2 : Int), (1 : Int), ())] 3 = 2 := by kernel_rfl
  have h6 : atL [((0 : Int), (4 : Int), (1 : Int), (0 : Int), ()), ((2 : Int), (6 : Int), (2 : Int), (1 : Int), ())] 6 = 0 := by kernel_rfl
  simp only [ha, hE, h3, h6, maxLen_eq]
  refine ⟨by decide, fun _ => ⟨hok, ⟨by decide, by decide⟩, fun _ => ⟨hok, fun _ => ⟨hok, rfl⟩, fun h => by cases h⟩, fun h => by cases h⟩, fun h => by cases h⟩
end Go.Fr.C40
