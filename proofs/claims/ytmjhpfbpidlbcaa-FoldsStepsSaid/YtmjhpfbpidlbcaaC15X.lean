/-
  Chapter 15: proofs of the conditions: shifts; sets are held against the document's. Conditions: none.
-/
import Derived.Test.YtmjhpfbpidlbcaaC15W
namespace Go.Fr.C15
open Go Go.Fr Go.Proofs

theorem refMap_before {p b : Int} : ∀ (l : List Chg) (last : Chg) (f : Bool) (s : Int), normFrom last f l = true → p < last.1.2.1 → refMap p b l s = p + s
  | [], _, _, _, _, _ => rfl
  | c :: r, last, f, s, hn, hp => by
    have h := normFrom_cons.1 hn
    have ok := okStep_iff.1 h.1
    rw [refMap, if_neg (by omega), if_neg (by omega)]
    exact refMap_before r c false s h.2 (by omega)
theorem refMap_eq {p b : Int} : ∀ (l : List Chg) (last : Chg) (f : Bool) (s : Int), normFrom last f l = true → mapTo p b l s = refMap p b l s
  | [], _, _, _, _ => rfl
  | c :: r, last, f, s, hn => by
    have h := normFrom_cons.1 hn
    have ok := okStep_iff.1 h.1
    have ih := refMap_eq (p := p) (b := b) r c false (c.2.1.2.1 - c.1.2.1) h.2
    rw [mapTo, refMap]
    by_cases h1 : p < c.1.1
    · rw [if_pos h1, if_neg (by omega), if_neg (by omega), refMap_before r c false s h.2 (by omega)]
    · rw [if_neg h1]
      by_cases h2 : p ≤ c.1.2.1
      · rw [if_pos h2, if_pos (show c.1.1 ≤ p ∧ p ≤ c.1.2.1 from ⟨by omega, h2⟩)]
      · rw [if_neg h2, if_neg (by omega), if_pos (by omega), ih]
theorem mapP_in {p : List Chg} {a b : Int} (hn : normal p = true) (h0 : 0 ≤ a) (h1 : a ≤ 1099511627776) (hb : b = 0 ∨ b = 1) : (mapP p a b).1 = mapTo a b p 0 := by
  rw [mapP, if_neg (by rw [hn]; decide), if_neg (by omega)]
theorem endOf_get {p : List Chg} (h : 0 < p.length) : endOf p = (p.getD (p.length - 1) zeroC).1.2.1 := by
  unfold endOf
  have : p.getLast? = some (p.getD (p.length - 1) zeroC) := by
    rw [List.getLast?_eq_getElem?, List.getD_eq_getElem?_getD, List.getElem?_eq_getElem (by omega)]
    rfl
  rw [this]
theorem d43 : Ty.dflt t43 = zeroC := rfl
theorem d75 : Ty.dflt t75 = zeroC := rfl
theorem wrap_mix (n D a b : Int) : IntKind.i64.wrap (n + IntKind.i64.wrap (D + IntKind.i64.wrap (IntKind.i64.wrap a - IntKind.i64.wrap b))) = IntKind.i64.wrap (IntKind.i64.wrap (IntKind.i64.wrap (n + D) + IntKind.i64.wrap a) - IntKind.i64.wrap b) := by
  simp only [wrap_eq]
  omega
theorem end_take {p : List Chg} {k : Nat} (h : k < p.length) : endOf (p.take (k + 1)) = (p.getD k zeroC).1.2.1 := by
  unfold endOf
  rw [take_one zeroC h, List.getLast?_concat]
theorem shift_take {p : List Chg} {l : List Span} {k : Nat} (h : k < l.length) : shiftL p (l.take (k + 1)) = shiftSt p (shiftL p (l.take k)) (l.getD k zS) := by
  rw [take_snoc' h]
  simp [shiftL]
theorem shiftSt_len (p : List Chg) (out : List Span) (x : Span) : (shiftSt p out x).length ≤ out.length + 1 := by
  unfold shiftSt
  split <;> simp
theorem shift_len (p : List Chg) (l : List Span) : (shiftL p l).length ≤ l.length := by
  have : ∀ (l out : List Span), (l.foldl (shiftSt p) out).length ≤ out.length + l.length := by
    intro l
    induction l with
    | nil => simp
    | cons x r ih =>
      intro out
      have h1 := ih (shiftSt p out x)
      have h2 := shiftSt_len p out x
      simp only [List.foldl_cons, List.length_cons]
      omega
  simpa [shiftL] using this l []
theorem st_no {p : List Chg} {out : List Span} {x : Span} (h : moveS p x ∈ out ∨ (moveS p x).1 ≥ (moveS p x).2.1) : shiftSt p out x = out := by
  unfold shiftSt
  rw [if_pos h]
theorem st_yes {p : List Chg} {out : List Span} {x : Span} (h : ¬ (moveS p x ∈ out ∨ (moveS p x).1 ≥ (moveS p x).2.1)) : shiftSt p out x = out ++ [moveS p x] := by
  unfold shiftSt
  rw [if_neg h]

theorem p15 : vc15 := by
  unfold vc15
  simp only [eq_self, true_and, and_true, decide_eq_true_eq, decide_eq_false_iff_not, beq_iff_eq, beq_eq_false_iff_ne, bne_iff_ne, bne_eq_false_iff_eq, Bool.not_eq_true', Bool.not_eq_false', ne_eq, imp_true_iff, implies_true]
  rintro ⟨s, p, ⟨⟩⟩
  simp only
  rintro ⟨hok, hn1, hn0, hp⟩
  simp only [d33, d43]
  have hpm : p.length ≤ maxLen := by rw [maxLen_eq]; omega
  have hl : (allF s).length ≤ 60 := hok.1
  replace hn1 : lenF s ≤ (1099511627776 : Int) := hn1
  replace hn0 : (0 : Int) ≤ lenF s := hn0
  have hsz : ∀ m ∈ allF s, 0 ≤ m.1 ∧ m.1 ≤ 1099511627776 ∧ 0 ≤ m.2.1 ∧ m.2.1 ≤ 1099511627776 := fun m hm => by
    have h := okS_iff.1 (hok.2.2 m hm)
    omega
  have r4 : normal p = false → (none, (4 : Int), ()) = shiftF s p := fun h => by rw [shiftF, if_pos h]
  have r1 : normal p = true → (endOf p > lenF s ∨ w64 (lenF s + delta p) > 1099511627776) → (none, (1 : Int), ()) = shiftF s p := fun h1 h2 => by
    rw [shiftF, if_neg (by rw [h1]; decide), if_pos h2]
  have fin : normal p = true → ¬ endOf p > lenF s → ¬ w64 (lenF s + delta p) > 1099511627776 → shiftF s p = newF (w64 (lenF s + delta p)) (shiftL p (allF s)) := fun h1 h2 h3 => by
    rw [shiftF, if_neg (by rw [h1]; decide), if_neg (by omega)]
  have body : normal p = true → shiftF s p = newF (w64 (lenF s + delta p)) (shiftL p (allF s)) → ∀ (a : List Span) (i : Int) (m : List (Span × Unit × Unit)), (∃ k : Nat, k ≤ (allF s).length ∧ i = (k : Int) ∧ a = shiftL p ((allF s).take k) ∧ m = keysOf a) →
      (i < ((allF s).length : Int) → (0 ≤ i ∧ i < ((allF s).length : Int)) ∧ p.length ≤ maxLen ∧ p.length ≤ maxLen ∧
        (Option.isSome (mget t33 t62 ((mapP p ((allF s).getD i.toNat zS).1 1).1, (mapP p ((allF s).getD i.toNat zS).2.1 0).1, ()) m) = true → (∃ k : Nat, k ≤ (allF s).length ∧ IntKind.i64.wrap (i + 1) = (k : Int) ∧ a = shiftL p ((allF s).take k) ∧ m = keysOf a) ∧ (allF s).length - (IntKind.i64.wrap (i + 1)).toNat < (allF s).length - i.toNat) ∧
        (Option.isSome (mget t33 t62 ((mapP p ((allF s).getD i.toNat zS).1 1).1, (mapP p ((allF s).getD i.toNat zS).2.1 0).1, ()) m) = false →
          ((mapP p ((allF s).getD i.toNat zS).1 1).1 ≥ (mapP p ((allF s).getD i.toNat zS).2.1 0).1 → (∃ k : Nat, k ≤ (allF s).length ∧ IntKind.i64.wrap (i + 1) = (k : Int) ∧ a = shiftL p ((allF s).take k) ∧ m = keysOf a) ∧ (allF s).length - (IntKind.i64.wrap (i + 1)).toNat < (allF s).length - i.toNat) ∧
          (¬ (mapP p ((allF s).getD i.toNat zS).1 1).1 ≥ (mapP p ((allF s).getD i.toNat zS).2.1 0).1 → mget t33 t62 ((mapP p ((allF s).getD i.toNat zS).1 1).1, (mapP p ((allF s).getD i.toNat zS).2.1 0).1, ()) m = none ∧
            (a.length + [(((mapP p ((allF s).getD i.toNat zS).1 1).1, (mapP p ((allF s).getD i.toNat zS).2.1 0).1, ()) : Span)].length) * 16 ≤ 140737488355328 ∧ a.length + [(((mapP p ((allF s).getD i.toNat zS).1 1).1, (mapP p ((allF s).getD i.toNat zS).2.1 0).1, ()) : Span)].length ≤ maxLen ∧
            (∃ k : Nat, k ≤ (allF s).length ∧ IntKind.i64.wrap (i + 1) = (k : Int) ∧ a ++ [((mapP p ((allF s).getD i.toNat zS).1 1).1, (mapP p ((allF s).getD i.toNat zS).2.1 0).1, ())] = shiftL p ((allF s).take k) ∧ m ++ [(((mapP p ((allF s).getD i.toNat zS).1 1).1, (mapP p ((allF s).getD i.toNat zS).2.1 0).1, ()), (), ())] = keysOf (a ++ [((mapP p ((allF s).getD i.toNat zS).1 1).1, (mapP p ((allF s).getD i.toNat zS).2.1 0).1, ())])) ∧ (allF s).length - (IntKind.i64.wrap (i + 1)).toNat < (allF s).length - i.toNat))) ∧
      (¬ i < ((allF s).length : Int) → p.length ≤ maxLen ∧ a.length ≤ maxLen ∧ newF (IntKind.i64.wrap (lenF s + delta p)) a = shiftF s p) := by
    rintro hn hfin a i m ⟨k, hk, rfl, ha, rfl⟩
    rw [hfin]
    clear hfin fin r1 r4 hok
    generalize allF s = l at hl hsz hk ha ⊢
    have hal : a.length ≤ k := by
      rw [ha]
      refine Nat.le_trans (shift_len _ _) ?_
      rw [List.length_take]
      omega
    refine ⟨fun h => ?_, fun h => ?_⟩
    · have hlt : k < l.length := by omega
      have hw : IntKind.i64.wrap ((k : Int) + 1) = ((k + 1 : Nat) : Int) := wrap_succ (by omega)
      have hst := shift_take (p := p) hlt
      have hm := hsz _ (List.getElem_mem hlt)
      rw [← getD_of zS hlt] at hm
      rw [← ha] at hst
      rw [toNat_cast, hw, toNat_cast]
      simp only [mapP_in hn hm.1 hm.2.1 (.inr rfl), mapP_in hn hm.2.2.1 hm.2.2.2 (.inl rfl)]
      have hY : ((mapTo (l.getD k zS).1 1 p 0, mapTo (l.getD k zS).2.1 0 p 0, ()) : Span) = moveS p (l.getD k zS) := rfl
      have hY1 : mapTo (l.getD k zS).1 1 p 0 = (moveS p (l.getD k zS)).1 := rfl
      have hY2 : mapTo (l.getD k zS).2.1 0 p 0 = (moveS p (l.getD k zS)).2.1 := rfl
      rw [hY]
      simp only [hY1, hY2]
      obtain ⟨g1, g2⟩ := mget_keys (moveS p (l.getD k zS)) a
      rw [maxLen_eq] at hpm ⊢
      simp only [List.length_singleton]
      refine ⟨⟨by omega, h⟩, by omega, by omega, fun h1 => ⟨⟨k + 1, hlt, rfl, ?_, by first | rfl | trivial⟩, by omega⟩, fun h1 => ⟨fun h2 => ⟨⟨k + 1, hlt, rfl, ?_, by first | rfl | trivial⟩, by omega⟩, fun h2 => ?_⟩⟩
      · rw [hst, st_no (.inl (g2.1 h1))]
      · rw [hst, st_no (.inr h2)]
      · have hnot : moveS p (l.getD k zS) ∉ a := fun hmem => by rw [g2.2 hmem] at h1; cases h1
        refine ⟨g1.2 hnot, by omega, by omega, ⟨k + 1, hlt, rfl, ?_, ?_⟩, by omega⟩
        · rw [hst, st_yes (fun hh => hh.elim hnot h2)]
        · simp [keysOf]
    · have hke : k = l.length := by omega
      subst hke
      rw [List.take_length] at ha
      refine ⟨hpm, by rw [maxLen_eq]; omega, ?_⟩
      rw [ha]
      rfl
  have hlast : 0 < p.length → (IntKind.i64.wrap ((p.length : Int) - 1)).toNat = p.length - 1 ∧ (0 ≤ IntKind.i64.wrap ((p.length : Int) - 1) ∧ IntKind.i64.wrap ((p.length : Int) - 1) < (p.length : Int)) := fun h => by
    have : IntKind.i64.wrap ((p.length : Int) - 1) = (p.length : Int) - 1 := by rw [wrap_eq]; omega
    rw [this]
    omega
  have hend0 : ¬ 0 < p.length → endOf p = 0 := fun h => by
    have : p = [] := List.eq_nil_of_length_eq_zero (by omega)
    rw [this]
    rfl
  have rest := fun (h1 : normal p = true) (h2 : ¬ endOf p > lenF s) (h3 : ¬ w64 (lenF s + delta p) > 1099511627776) => body h1 (fin h1 h2 h3)
  have ini : ∃ k : Nat, k ≤ (allF s).length ∧ (0 : Int) = (k : Int) ∧ [] = shiftL p ((allF s).take k) ∧ [] = keysOf [] := ⟨0, Nat.zero_le _, rfl, rfl, rfl⟩
  refine ⟨hpm, r4, fun h1 => ⟨fun h2 => ?_, fun h2 => ?_⟩⟩
  · obtain ⟨q1, q2⟩ := hlast (by omega)
    rw [q1, ← endOf_get (by omega)]
    refine ⟨q2, fun h3 => r1 h1 (.inl h3), fun h3 => ⟨hpm, fun h4 => r1 h1 (.inr h4), fun h4 => ⟨by omega, ?_⟩⟩⟩
    exact ⟨fun z => ∃ k : Nat, k ≤ (allF s).length ∧ z.2.1 = (k : Int) ∧ z.1 = shiftL p ((allF s).take k) ∧ z.2.2.1 = keysOf z.1, fun z => (allF s).length - z.2.1.toNat, ini, fun a i m hz => rest h1 h3 h4 a i m hz⟩
  · have h3 : ¬ endOf p > lenF s := by rw [hend0 (by omega)]; omega
    refine ⟨hpm, fun h4 => r1 h1 (.inr h4), fun h4 => ⟨by omega, ?_⟩⟩
    exact ⟨fun z => ∃ k : Nat, k ≤ (allF s).length ∧ z.2.1 = (k : Int) ∧ z.1 = shiftL p ((allF s).take k) ∧ z.2.2.1 = keysOf z.1, fun z => (allF s).length - z.2.1.toNat, ini, fun a i m hz => rest h1 h3 h4 a i m hz⟩

theorem p21 : vc21 := by
  unfold vc21
  simp only [eq_self, true_and, and_true, decide_eq_true_eq, decide_eq_false_iff_not, beq_iff_eq, beq_eq_false_iff_ne, bne_iff_ne, bne_eq_false_iff_eq, Bool.not_eq_true', Bool.not_eq_false', ne_eq, imp_true_iff, implies_true]
  rintro ⟨w, p, ⟨⟩⟩
  simp only
  rintro ⟨hl, hok, h0, h1, hp⟩
  replace h0 : (0 : Int) ≤ w.1 := h0
  replace h1 : w.1 ≤ (1099511627776 : Int) := h1
  replace hok : ∀ m ∈ w.2.1, okS w.1 m = true := hok
  simp only [d75, d33]
  have hpm : p.length ≤ maxLen := by rw [maxLen_eq]; omega
  refine ⟨hpm, fun h => by rw [shiftW, if_pos h], fun hn => ?_⟩
  have r1 : (endOf p > w.1 ∨ w64 (w.1 + delta p) > 1099511627776) → ((0 : Int), [], (1 : Int), ()) = shiftW w p := fun h => by
    rw [shiftW, if_neg (by rw [hn]; decide), if_pos h]
  refine ⟨fun z => ∃ k : Nat, k ≤ p.length ∧ z.2.2.1 = (k : Int) ∧ z.1 = w64 (w.1 + delta (p.take k)) ∧ z.2.1 = endOf (p.take k), fun z => p.length - z.2.2.1.toNat, ⟨0, Nat.zero_le _, rfl, ?_, rfl⟩, ?_⟩
  · show w.1 = w64 (w.1 + 0)
    unfold w64
    rw [wrap_eq]
    omega
  rintro n last i ⟨k, hk, hi, hnn, hla⟩
  simp only at hi hnn hla
  subst hi hnn hla
  refine ⟨fun h => ?_, fun h => ?_⟩
  · have hlt : k < p.length := by omega
    have hw : IntKind.i64.wrap ((k : Int) + 1) = ((k + 1 : Nat) : Int) := wrap_succ (by omega)
    rw [toNat_cast, hw]
    refine ⟨⟨by omega, h⟩, ⟨k + 1, hlt, rfl, ?_, (end_take hlt).symm⟩, ?_⟩
    · rw [delta_take hlt]
      unfold w64 size w64
      exact (wrap_mix _ _ _ _).symm
    · show p.length - (((k + 1 : Nat) : Int)).toNat < p.length - (k : Int).toNat
      rw [toNat_cast, toNat_cast]; omega
  · have hke : k = p.length := by omega
    subst hke
    rw [List.take_length]
    refine ⟨fun g => r1 (.inl g), fun g1 => ⟨fun g => r1 (.inr g), fun g2 => ?_⟩⟩
    have hfin : shiftW w p = newW (w64 (w.1 + delta p)) (shiftL p w.2.1) := by
      rw [shiftW, if_neg (by rw [hn]; decide), if_neg (by omega)]
    rw [hfin]
    clear hfin r1
    have hokm : ∀ m ∈ w.2.1, 0 ≤ m.1 ∧ m.1 ≤ 1099511627776 ∧ 0 ≤ m.2.1 ∧ m.2.1 ≤ 1099511627776 := fun m hm => by
      have h := okS_iff.1 (hok m hm)
      omega
    clear hok
    generalize w.2.1 = l at hl hokm ⊢
    refine ⟨fun z => ∃ k : Nat, k ≤ l.length ∧ z.2.1 = (k : Int) ∧ z.1 = shiftL p (l.take k), fun z => l.length - z.2.1.toNat, ⟨0, Nat.zero_le _, rfl, rfl⟩, ?_⟩
    rintro out i ⟨q, hq, hi, hout⟩
    simp only at hi hout
    subst hi
    have hol : out.length ≤ q := by
      rw [hout]
      refine Nat.le_trans (shift_len _ _) ?_
      rw [List.length_take]
      omega
    refine ⟨fun h => ?_, fun h => ?_⟩
    · have hlt : q < l.length := by omega
      have hw : IntKind.i64.wrap ((q : Int) + 1) = ((q + 1 : Nat) : Int) := wrap_succ (by omega)
      have hst := shift_take (p := p) hlt
      rw [← hout] at hst
      unfold shiftSt at hst
      have hm := hokm _ (List.getElem_mem hlt)
      rw [← getD_of zS hlt] at hm
      rw [toNat_cast, hw, maxLen_eq]
      have hpm2 : p.length ≤ 9223372036854775807 := by omega
      obtain ⟨m, hm0⟩ : ∃ m : Span, l.getD q zS = m := ⟨_, rfl⟩
      simp only [hm0] at hst hm ⊢
      have e1 : refMap m.1 1 p 0 = (moveS p m).1 := (refMap_eq p zeroC true 0 hn).symm
      have e2 : refMap m.2.1 0 p 0 = (moveS p m).2.1 := (refMap_eq p zeroC true 0 hn).symm
      have e : (((moveS p m).1, (moveS p m).2.1, ()) : Span) = moveS p m := rfl
      have hdec : l.length - (((q + 1 : Nat) : Int)).toNat < l.length - q := by rw [toNat_cast]; omega
      simp only [e1, e2]
      rw [e]
      have a0 : (0 : Ty.den t3) ≤ m.1 := show (0 : Int) ≤ m.1 by omega
      have a1 : m.1 ≤ (1099511627776 : Ty.den t3) := show m.1 ≤ (1099511627776 : Int) by omega
      have b0 : (0 : Ty.den t3) ≤ m.2.1 := show (0 : Int) ≤ m.2.1 by omega
      have b1 : m.2.1 ≤ (1099511627776 : Ty.den t3) := show m.2.1 ≤ (1099511627776 : Int) by omega
      refine ⟨⟨by omega, h⟩, ⟨hpm2, hn, a0, a1⟩, ⟨hpm2, hn, b0, b1⟩, ?_⟩
      obtain ⟨Y, hY0⟩ : ∃ Y : Span, moveS p m = Y := ⟨_, rfl⟩
      simp only [hY0] at hst ⊢
      refine ⟨fun z => ∃ j : Nat, j ≤ out.length ∧ z.2.1 = (j : Int) ∧ (z.1 = true ↔ Y.1 ≥ Y.2.1 ∨ Y ∈ out.take j), fun z => out.length - z.2.1.toNat, ⟨0, Nat.zero_le _, rfl, by simp⟩, ?_⟩
      rintro there j0 ⟨j, hj, hj0, ht⟩
      simp only at hj0 ht
      subst hj0
      simp only [toNat_cast]
      refine ⟨fun h2 => ?_, fun h2 => ?_⟩
      · have hjl : j < out.length := by omega
        have hwj : IntKind.i64.wrap ((j : Int) + 1) = ((j + 1 : Nat) : Int) := wrap_succ (by omega)
        have htk := take_snoc' (l := out) hjl
        rw [hwj, toNat_cast]
        refine ⟨by omega, fun h3 => ⟨⟨j + 1, hjl, rfl, ?_⟩, by omega⟩, fun h3 => ⟨⟨j + 1, hjl, rfl, ?_⟩, by omega⟩⟩
        · refine ⟨fun _ => ?_, fun _ => trivial⟩
          rcases ht.1 h3 with h4 | h4
          · exact .inl h4
          · exact .inr (by rw [htk]; exact List.mem_append_left _ h4)
        · rw [beqS, htk]
          have hno : ¬ (Y.1 ≥ Y.2.1 ∨ Y ∈ out.take j) := fun hh => by rw [ht.2 hh] at h3; cases h3
          constructor
          · intro h4
            exact .inr (List.mem_append_right _ (by rw [h4]; exact List.mem_singleton.2 rfl))
          · rintro (h4 | h4)
            · exact absurd (.inl h4) hno
            · rcases List.mem_append.1 h4 with h5 | h5
              · exact absurd (.inr h5) hno
              · exact List.mem_singleton.1 h5
      · have hjl : j = out.length := by omega
        subst hjl
        rw [List.take_length] at ht
        simp only [List.length_singleton]
        refine ⟨fun h3 => ⟨by omega, by omega, ⟨q + 1, hlt, rfl, ?_⟩, hdec⟩, fun h3 => ⟨⟨q + 1, hlt, rfl, ?_⟩, hdec⟩⟩
        · have hno : ¬ (Y ∈ out ∨ Y.1 ≥ Y.2.1) := fun hh => by rw [ht.2 hh.symm] at h3; cases h3
          rw [hst, if_neg hno]
        · have hyes : Y ∈ out ∨ Y.1 ≥ Y.2.1 := (ht.1 h3).symm
          rw [hst, if_pos hyes]
    · have hke : q = l.length := by omega
      subst hke
      rw [List.take_length] at hout
      rw [hout] at hol ⊢
      exact ⟨by rw [maxLen_eq]; omega, rfl⟩
end Go.Fr.C15
