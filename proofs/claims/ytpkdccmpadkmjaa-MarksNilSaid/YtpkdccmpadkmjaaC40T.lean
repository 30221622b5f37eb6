/-
  Chapter 40: proofs of the conditions: sets are shifted. Conditions: none.
-/
import Derived.Test.YtpkdccmpadkmjaaC40R
namespace Go.Fr.C40
open Go Go.Fr Go.Proofs

def sh (p : List Chg) (m : Mark) : Mark := (mapTo m.1 1 p 0, mapTo m.2.1 0 p 0, m.2.2.1, m.2.2.2.1, ())
theorem shiftL_eq (p : List Chg) (l : List Mark) : shiftL p l = (l.map (sh p)).filter fun m => decide (m.1 < m.2.1) := rfl
theorem mapP_in {p : List Chg} {a b : Int} (hn : normal p = true) (h0 : 0 ≤ a) (h1 : a ≤ 1099511627776) (hb : b = 0 ∨ b = 1) : (mapP p a b).1 = mapTo a b p 0 := by
  rw [mapP, if_neg (by rw [hn]; decide), if_neg (by omega)]
theorem upd_get {α : Type} {f : α → α} {l : List α} {k : Nat} (d : α) (h : k < l.length) : ((l.take k).map f ++ l.drop k).getD k d = l.getD k d := by
  have hl : ((l.take k).map f).length = k := by simp; omega
  rw [List.getD_eq_getElem?_getD, List.getElem?_append_right (by omega), hl, Nat.sub_self, List.getElem?_drop, Nat.add_zero, List.getD_eq_getElem?_getD]
theorem upd_set {α : Type} {f : α → α} {l : List α} {k : Nat} (d : α) (h : k < l.length) : ((l.take k).map f ++ l.drop k).set k (f (l.getD k d)) = (l.take (k + 1)).map f ++ l.drop (k + 1) := by
  have hl : ((l.take k).map f).length = k := by simp; omega
  rw [List.set_append_right _ _ (by omega), hl, Nat.sub_self, drop_cons d h, List.set_cons_zero, ← take_snoc d h]
  simp
theorem upd_len {α : Type} {f : α → α} {l : List α} {k : Nat} (h : k ≤ l.length) : ((l.take k).map f ++ l.drop k).length = l.length := by simp; omega
/-- A round: what the set's i-th mark is then. -/
theorem step20 {p : List Chg} {l : List Mark} (hp : p.length ≤ maxLen) (hn : normal p = true) (hl : l.length ≤ 200) (hok : ∀ m ∈ l, 0 ≤ m.1 ∧ m.1 ≤ 1099511627776 ∧ 0 ≤ m.2.1 ∧ m.2.1 ≤ 1099511627776) (a : List Mark) (i : Int)
    (hz : ∃ k : Nat, k ≤ l.length ∧ i = (k : Int) ∧ a = (l.take k).map (sh p) ++ l.drop k) (h : i < (l.length : Int)) :
    (0 ≤ i ∧ i < (a.length : Int)) ∧ p.length ≤ maxLen ∧ (0 ≤ i ∧ i < (a.length : Int)) ∧ p.length ≤ maxLen ∧
      (0 ≤ i ∧ i < ((a.set i.toNat ((mapP p (a.getD i.toNat zM).1 1).1, (a.getD i.toNat zM).2)).length : Int)) ∧
      (∃ k : Nat, k ≤ l.length ∧ IntKind.i64.wrap (i + 1) = (k : Int) ∧
        (a.set i.toNat ((mapP p (a.getD i.toNat zM).1 1).1, (a.getD i.toNat zM).2)).set i.toNat
          (((a.set i.toNat ((mapP p (a.getD i.toNat zM).1 1).1, (a.getD i.toNat zM).2)).getD i.toNat zM).1, (mapP p (a.getD i.toNat zM).2.1 0).1,
            ((a.set i.toNat ((mapP p (a.getD i.toNat zM).1 1).1, (a.getD i.toNat zM).2)).getD i.toNat zM).2.2) = (l.take k).map (sh p) ++ l.drop k) ∧
      l.length - (IntKind.i64.wrap (i + 1)).toNat < l.length - i.toNat := by
  obtain ⟨k, hk, rfl, rfl⟩ := hz
  have hlt : k < l.length := by omega
  have hw : IntKind.i64.wrap ((k : Int) + 1) = ((k + 1 : Nat) : Int) := wrap_succ (by omega)
  have hal := upd_len (f := sh p) hk
  rw [toNat_cast, hw, upd_get zM hlt]
  have hm := hok _ (List.getElem_mem hlt)
  rw [← getD_of zM hlt] at hm
  have hset := upd_set (f := sh p) zM hlt
  generalize (l.take k).map (sh p) ++ l.drop k = a at *
  generalize l.getD k zM = m at *
  rw [mapP_in hn hm.1 hm.2.1 (.inr rfl), mapP_in hn hm.2.2.1 hm.2.2.2 (.inl rfl)]
  have hg : ∀ u : Mark, (a.set k u).getD k zM = u := fun u => by
    rw [List.getD_eq_getElem?_getD, List.getElem?_set_self (by omega)]
    rfl
  rw [hg, List.set_set, List.length_set]
  refine ⟨⟨by omega, by omega⟩, hp, ⟨by omega, by omega⟩, hp, ⟨by omega, by omega⟩, ⟨k + 1, hlt, rfl, ?_⟩, by rw [toNat_cast]; omega⟩
  rw [← hset]
  rfl
theorem endOf_get {p : List Chg} (h : 0 < p.length) : endOf p = (p.getD (p.length - 1) zeroC).1.2.1 := by
  unfold endOf
  have : p.getLast? = some (p.getD (p.length - 1) zeroC) := by
    rw [List.getLast?_eq_getElem?, List.getD_eq_getElem?_getD, List.getElem?_eq_getElem (by omega)]
    rfl
  rw [this]
theorem d76 : Ty.dflt t76 = zeroC := rfl
theorem p20 : vc20 := by
  unfold vc20
  simp only [eq_self, true_and, and_true, decide_eq_true_eq, decide_eq_false_iff_not, beq_iff_eq, beq_eq_false_iff_ne, bne_iff_ne, bne_eq_false_iff_eq, Bool.not_eq_true', Bool.not_eq_false', ne_eq, imp_true_iff, implies_true]
  rintro ⟨s, p, ⟨⟩⟩
  simp only
  rintro ⟨hok, hn1, hn0, hp⟩
  simp only [d60, d76]
  have hpm : p.length ≤ maxLen := by rw [maxLen_eq]; omega
  have hl : (allM s).length ≤ 200 := hok.1
  have hsz : ∀ m ∈ allM s, 0 ≤ m.1 ∧ m.1 ≤ 1099511627776 ∧ 0 ≤ m.2.1 ∧ m.2.1 ≤ 1099511627776 := fun m hm => by
    have h := okMark_iff.1 (hok.2 m hm)
    have h1 : sizeM s ≤ (1099511627776 : Int) := hn1
    omega
  have hn0 : (0 : Int) ≤ sizeM s := hn0
  have r4 : normal p = false → (none, (4 : Int), ()) = shiftM s p := fun h => by rw [shiftM, if_pos h]
  have r1 : normal p = true → (endOf p > sizeM s ∨ w64 (sizeM s + delta p) > 1099511627776) → (none, (1 : Int), ()) = shiftM s p := fun h1 h2 => by
    rw [shiftM, if_neg (by rw [h1]; decide), if_pos h2]
  have fin : normal p = true → ¬ endOf p > sizeM s → ¬ w64 (sizeM s + delta p) > 1099511627776 → ∀ (a : List Mark) (i : Int), (∃ k : Nat, k ≤ (allM s).length ∧ i = (k : Int) ∧ a = ((allM s).take k).map (sh p) ++ (allM s).drop k) → ¬ i < ((allM s).length : Int) →
      p.length ≤ maxLen ∧ a.length ≤ 10000 ∧ ∀ ys : List Mark, ys = a.filter (fun m => decide (m.1 < m.2.1)) → ys.length ≤ maxLen ∧ newM (w64 (sizeM s + delta p)) ys = shiftM s p := by
    rintro h1 h2 h3 a i ⟨k, hk, rfl, rfl⟩ h
    have hkl : k = (allM s).length := by omega
    subst hkl
    rw [upd_len (Nat.le_refl _)]
    refine ⟨hpm, by omega, fun ys hys => ?_⟩
    have hyl : ys.length ≤ 200 := by
      rw [hys]
      exact Nat.le_trans (List.length_filter_le _ _) (by rw [upd_len (Nat.le_refl _)]; exact hl)
    refine ⟨by rw [maxLen_eq]; omega, ?_⟩
    rw [shiftM, if_neg (by rw [h1]; decide), if_neg (by omega), shiftL_eq, hys]
    simp
  have hlast : 0 < p.length → (IntKind.i64.wrap ((p.length : Int) - 1)).toNat = p.length - 1 ∧ (0 ≤ IntKind.i64.wrap ((p.length : Int) - 1) ∧ IntKind.i64.wrap ((p.length : Int) - 1) < (p.length : Int)) := fun h => by
    have : IntKind.i64.wrap ((p.length : Int) - 1) = (p.length : Int) - 1 := by rw [wrap_eq]; omega
    rw [this]
    omega
  have hend0 : ¬ 0 < p.length → endOf p = 0 := fun h => by
    have : p = [] := List.eq_nil_of_length_eq_zero (by omega)
    rw [this]
    rfl
  have step := fun h => step20 (l := allM s) hpm h hl hsz
  have all : ∀ n : Int, n = sizeM s → (p.length ≤ maxLen ∧ (normal p = false → (none, (4 : Int), ()) = shiftM s p) ∧ (normal p = true →
      ((p.length : Int) > 0 → (0 ≤ IntKind.i64.wrap ((p.length : Int) - 1) ∧ IntKind.i64.wrap ((p.length : Int) - 1) < (p.length : Int)) ∧
        ((p.getD (IntKind.i64.wrap ((p.length : Int) - 1)).toNat zeroC).1.2.1 > n → (none, (1 : Int), ()) = shiftM s p) ∧ (¬ (p.getD (IntKind.i64.wrap ((p.length : Int) - 1)).toNat zeroC).1.2.1 > n → normal p = true ∧ ¬ endOf p > n)) ∧
      (¬ (p.length : Int) > 0 → normal p = true ∧ ¬ endOf p > n))) := by
    rintro n rfl
    refine ⟨hpm, r4, fun h1 => ⟨fun h2 => ?_, fun h2 => ⟨h1, by rw [hend0 (by omega)]; omega⟩⟩⟩
    obtain ⟨q1, q2⟩ := hlast (by omega)
    rw [q1, ← endOf_get (by omega)]
    exact ⟨q2, fun h => r1 h1 (.inl h), fun h => ⟨h1, h⟩⟩
  have rest : ∀ n : Int, n = sizeM s → normal p = true → ¬ endOf p > n → (IntKind.i64.wrap (n + delta p) > 1099511627776 → (none, (1 : Int), ()) = shiftM s p) := by
    rintro n rfl h1 h2 h3
    exact r1 h1 (.inr h3)
  have ini : ∃ k : Nat, k ≤ (allM s).length ∧ (0 : Int) = (k : Int) ∧ allM s = ((allM s).take k).map (sh p) ++ (allM s).drop k := ⟨0, Nat.zero_le _, rfl, by simp⟩
  cases s with
  | none =>
    obtain ⟨q1, q2, q3⟩ := all 0 rfl
    have rr := rest 0 rfl
    have ff := fin
    simp only [sizeM] at ff
    refine ⟨fun h => (by cases h), fun _ => ⟨q1, q2, fun h1 => ⟨fun h2 => ⟨(q3 h1).1 h2 |>.1, ((q3 h1).1 h2).2.1, fun h3 => ?_⟩, fun h2 => ?_⟩⟩⟩
    · obtain ⟨g1, g2⟩ := ((q3 h1).1 h2).2.2 h3
      refine ⟨hpm, rr g1 g2, fun h4 => ⟨by omega, fun z => ∃ k : Nat, k ≤ (allM none).length ∧ z.2.1 = (k : Int) ∧ z.1 = ((allM none).take k).map (sh p) ++ (allM none).drop k, fun z => (allM none).length - z.2.1.toNat, ini, fun a i hz => ⟨fun h => step g1 a i hz h, fun h => ff g1 g2 h4 a i hz h⟩⟩⟩
    · obtain ⟨g1, g2⟩ := (q3 h1).2 h2
      refine ⟨hpm, rr g1 g2, fun h4 => ⟨by omega, fun z => ∃ k : Nat, k ≤ (allM none).length ∧ z.2.1 = (k : Int) ∧ z.1 = ((allM none).take k).map (sh p) ++ (allM none).drop k, fun z => (allM none).length - z.2.1.toNat, ini, fun a i hz => ⟨fun h => step g1 a i hz h, fun h => ff g1 g2 h4 a i hz h⟩⟩⟩
  | some s =>
    have hg : ((optL (some s)).getD 0 (Ty.dflt t63)).1 = s.1 := rfl
    obtain ⟨q1, q2, q3⟩ := all s.1 rfl
    have rr := rest s.1 rfl
    have ff := fin
    simp only [sizeM] at ff
    rw [hg]
    refine ⟨fun _ => ⟨rfl, q1, q2, fun h1 => ⟨fun h2 => ⟨(q3 h1).1 h2 |>.1, ((q3 h1).1 h2).2.1, fun h3 => ?_⟩, fun h2 => ?_⟩⟩, fun h => by cases h⟩
    · obtain ⟨g1, g2⟩ := ((q3 h1).1 h2).2.2 h3
      refine ⟨hpm, rr g1 g2, fun h4 => ⟨by omega, fun z => ∃ k : Nat, k ≤ (allM (some s)).length ∧ z.2.1 = (k : Int) ∧ z.1 = ((allM (some s)).take k).map (sh p) ++ (allM (some s)).drop k, fun z => (allM (some s)).length - z.2.1.toNat, ini, fun a i hz => ⟨fun h => step g1 a i hz h, fun h => ff g1 g2 h4 a i hz h⟩⟩⟩
    · obtain ⟨g1, g2⟩ := (q3 h1).2 h2
      refine ⟨hpm, rr g1 g2, fun h4 => ⟨by omega, fun z => ∃ k : Nat, k ≤ (allM (some s)).length ∧ z.2.1 = (k : Int) ∧ z.1 = ((allM (some s)).take k).map (sh p) ++ (allM (some s)).drop k, fun z => (allM (some s)).length - z.2.1.toNat, ini, fun a i hz => ⟨fun h => step g1 a i hz h, fun h => ff g1 g2 h4 a i hz h⟩⟩⟩
end Go.Fr.C40
