/-
  Chapter 10: the patch of a batch: proofs of the conditions. Conditions: none.
-/
import Derived.Test.YtefahblfillfeaaC10S
namespace Go.Fr.C10
open Go Go.Fr Go.Proofs

theorem runes_bd (x : Edit) : 0 ≤ runes x ∧ runes x ≤ (x.2.2.1.size : Int) := by
  have := decAt_len x.2.2.1 x.2.2.1.size 0 (by omega)
  have e : decAt x.2.2.1 0 = decodeL x.2.2.1 := rfl
  rw [e] at this
  unfold runes
  omega
theorem ofAll_succ {l : List Edit} {k : Nat} (h : k < l.length) : ofAll (l.take (k + 1)) = ofStep (ofAll (l.take k)) (l.getD k zEdit) := by
  unfold ofAll
  rw [foldl_take_succ h, Go.Fr.getD_of zEdit h]
theorem fair_mem {l : List Edit} (h : fair l) {k : Nat} (hk : k < l.length) : 0 ≤ (l.getD k zEdit).1 ∧ (l.getD k zEdit).1 ≤ (l.getD k zEdit).2.1 ∧ (l.getD k zEdit).2.1 ≤ 1000 ∧ 0 ≤ runes (l.getD k zEdit) ∧ runes (l.getD k zEdit) ≤ 500 ∧ (l.getD k zEdit).2.2.1.size ≤ 500 := by
  have hm : l.getD k zEdit ∈ l := by rw [Go.Fr.getD_of _ hk]; exact List.getElem_mem _
  have := h.2 _ hm
  have := runes_bd (l.getD k zEdit)
  omega
theorem shift_bd {l : List Edit} (h : fair l) : ∀ k, k ≤ l.length → -1000 * (k : Int) ≤ (ofAll (l.take k)).2 ∧ (ofAll (l.take k)).2 ≤ 1000 * (k : Int)
  | 0, _ => by
    have : (ofAll (l.take 0)).2 = 0 := rfl
    omega
  | k + 1, hk => by
    have ih := shift_bd h k (by omega)
    have := fair_mem h (k := k) (by omega)
    rw [ofAll_succ (by omega)]
    show _ ≤ (ofAll (l.take k)).2 + runes (l.getD k zEdit) - ((l.getD k zEdit).2.1 - (l.getD k zEdit).1) ∧ (ofAll (l.take k)).2 + runes (l.getD k zEdit) - ((l.getD k zEdit).2.1 - (l.getD k zEdit).1) ≤ _
    omega
theorem addC_len (a : List Chg) (c : Chg) : (addC a c).length ≤ a.length + 1 := by
  unfold addC
  split
  · omega
  · split
    · rw [List.length_set]; omega
    · simp
theorem ofAll_len (l : List Edit) : ∀ k, k ≤ l.length → (ofAll (l.take k)).1.length ≤ k
  | 0, _ => Nat.le_refl _
  | k + 1, hk => by
    have ih := ofAll_len l k (by omega)
    rw [ofAll_succ (by omega)]
    have := addC_len (ofAll (l.take k)).1 (chgOf (ofAll (l.take k)).2 (l.getD k zEdit))
    show (addC _ _).length ≤ _
    omega
/-- Two stores into one element. -/
theorem set_twice {a : List Chg} {k : Nat} (h : k < a.length) (u v : Int) :
    (a.set k (((a.getD k zeroC).1.1, u, ()), (a.getD k zeroC).2)).set k (((a.set k (((a.getD k zeroC).1.1, u, ()), (a.getD k zeroC).2)).getD k zeroC).1, (((a.set k (((a.getD k zeroC).1.1, u, ()), (a.getD k zeroC).2)).getD k zeroC).2.1.1, v, ()), ()) =
    a.set k (((a.getD k zeroC).1.1, u, ()), ((a.getD k zeroC).2.1.1, v, ()), ()) := by
  have e : (a.set k (((a.getD k zeroC).1.1, u, ()), (a.getD k zeroC).2)).getD k zeroC = (((a.getD k zeroC).1.1, u, ()), (a.getD k zeroC).2) := by
    rw [Go.Fr.getD_of _ (by rw [List.length_set]; exact h), List.getElem_set_self]
  rw [e, List.set_set]
theorem p17 : vc17 := by
  unfold vc17
  simp only [eq_self, true_and, and_true, decide_eq_true_eq, decide_eq_false_iff_not, beq_iff_eq, beq_eq_false_iff_ne, bne_iff_ne, bne_eq_false_iff_eq, Bool.not_eq_true', Bool.not_eq_false', ne_eq, imp_true_iff, implies_true]
  rintro ⟨l, ⟨⟩⟩
  simp only
  intro hf
  have hl := hf.1
  rw [d36, dflt56, maxLen_eq]
  refine ⟨fun z => ∃ k : Nat, k ≤ l.length ∧ z.2.2.1 = (k : Int) ∧ (z.1, z.2.1) = ofAll (l.take k), fun z => l.length - z.2.2.1.toNat, ⟨0, Nat.zero_le _, rfl, rfl⟩, ?_⟩
  rintro a sh i ⟨k, hk, hi, hs⟩
  simp only at hi hs
  subst hi
  refine ⟨fun h => ?_, fun h => ?_⟩
  · have hlt : k < l.length := by omega
    have hw : IntKind.i64.wrap ((k : Int) + 1) = ((k + 1 : Nat) : Int) := Go.Fr.wrap_succ (by omega)
    have fm := fair_mem hf hlt
    have sb := shift_bd hf k hk
    have al := ofAll_len l k hk
    have step := ofAll_succ hlt
    rw [← hs] at sb al step
    rw [C10.toNat_cast, hw]
    simp only at sb al
    have er : (((decodeL (l.getD k zEdit).2.2.1).length : Nat) : Int) = runes (l.getD k zEdit) := rfl
    rw [er]
    generalize l.getD k zEdit = x at *
    have w1 : IntKind.i64.wrap (x.1 + sh) = x.1 + sh := by rw [C10.wrap_eq]; omega
    have w2 : IntKind.i64.wrap (x.1 + sh + runes x) = x.1 + sh + runes x := by rw [C10.wrap_eq]; omega
    have w3 : IntKind.i64.wrap (sh + IntKind.i64.wrap (runes x - IntKind.i64.wrap (x.2.1 - x.1))) = sh + runes x - (x.2.1 - x.1) := by simp only [C10.wrap_eq]; omega
    have w4 : IntKind.i64.wrap (size (x.1, x.2.1, ()) + size (x.1 + sh, x.1 + sh + runes x, ())) = (x.2.1 - x.1) + runes x := by
      unfold size w64; simp only [C10.wrap_eq]; omega
    rw [w1, w2, w3, w4]
    have hdec : l.length - (((k + 1 : Nat) : Int)).toNat < l.length - (k : Int).toNat := by rw [C10.toNat_cast, C10.toNat_cast]; omega
    have next : ∀ out : List Chg, addC a (chgOf sh x) = out → ∃ k' : Nat, k' ≤ l.length ∧ ((k + 1 : Nat) : Int) = (k' : Int) ∧ (out, sh + runes x - (x.2.1 - x.1)) = ofAll (l.take k') := fun out e =>
      ⟨k + 1, hlt, rfl, by rw [step, ← e]; rfl⟩
    have one : ∀ c : Chg, [c].length = 1 := fun _ => rfl
    rw [one]
    refine ⟨by omega, by omega, fun g => ⟨next _ ?_, hdec⟩, fun g => ⟨fun g2 => ?_, fun g2 => ?_⟩⟩
    · unfold addC chgOf
      rw [if_pos (by simp only; omega)]
    · have w5 : IntKind.i64.wrap ((a.length : Int) - 1) = ((a.length - 1 : Nat) : Int) := by rw [C10.wrap_eq] at g2 ⊢; omega
      have h1 : 0 < a.length := by rw [C10.wrap_eq] at g2; omega
      rw [w5, C10.toNat_cast]
      simp only [List.length_set]
      refine ⟨by omega, fun g3 => ⟨by omega, by omega, next _ ?_, hdec⟩, fun g3 => ⟨by omega, by omega, next _ ?_, hdec⟩⟩
      · unfold addC chgOf
        rw [if_neg (by simp only; omega), if_pos ⟨h1, g3⟩]
        exact (set_twice (by omega) _ _).symm
      · unfold addC chgOf
        rw [if_neg (by simp only; omega), if_neg (fun e => g3 e.2)]
    · refine ⟨by omega, by omega, next _ ?_, hdec⟩
      have h0 : a.length = 0 := by rw [C10.wrap_eq] at g2; omega
      unfold addC chgOf
      rw [if_neg (by simp only; omega), if_neg (by omega)]
  · have : k = l.length := by omega
    subst this
    rw [List.take_length] at hs
    rw [← hs]

theorem getD_take {l : List Edit} {k j : Nat} (h : j < k) (hk : k ≤ l.length) : (l.take k).getD j zEdit = l.getD j zEdit := by
  rw [Go.Fr.getD_of _ (by rw [List.length_take]; omega), Go.Fr.getD_of _ (by omega), List.getElem_take]
theorem p19 : vc19 := by
  unfold vc19
  simp only [eq_self, true_and, and_true, decide_eq_true_eq, decide_eq_false_iff_not, beq_iff_eq, beq_eq_false_iff_ne, bne_iff_ne, bne_eq_false_iff_eq, Bool.not_eq_true', Bool.not_eq_false', ne_eq, imp_true_iff, implies_true]
  rintro ⟨l, ⟨⟩⟩
  simp only
  intro hf
  have hl := hf.1
  rw [d36, dflt57, maxLen_eq]
  refine ⟨fun z => ∃ k : Nat, k ≤ l.length ∧ z.2.1 = (k : Int) ∧ z.1 = (ofAll (l.take k)).1, fun z => l.length - z.2.1.toNat, ⟨0, Nat.zero_le _, rfl, rfl⟩, ?_⟩
  rintro a i ⟨k, hk, hi, hs⟩
  simp only at hi hs
  subst hi
  refine ⟨fun h => ?_, fun h => ?_⟩
  · have hlt : k < l.length := by omega
    have hw : IntKind.i64.wrap ((k : Int) + 1) = ((k + 1 : Nat) : Int) := Go.Fr.wrap_succ (by omega)
    have fm := fair_mem hf hlt
    have sb := shift_bd hf k hk
    have al := ofAll_len l k hk
    have step := ofAll_succ hlt
    rw [← hs] at al
    rw [C10.toNat_cast, hw]
    have lt : (l.take k).length = k := by rw [List.length_take]; omega
    rw [lt]
    refine ⟨by omega, by omega, fun z => ∃ j : Nat, j ≤ k ∧ z.2.1 = (j : Int) ∧ z.1 = (l.getD k zEdit).1 + (ofAll (l.take j)).2, fun z => k - z.2.1.toNat, ⟨0, Nat.zero_le _, rfl, (by show _ = _ + (0 : Int); omega)⟩, ?_⟩
    rintro at_ i2 ⟨j, hj, hi2, ha⟩
    simp only at hi2 ha
    subst hi2 ha
    refine ⟨fun h2 => ?_, fun h2 => ?_⟩
    · have hjl : j < l.length := by omega
      have fj := fair_mem hf hjl
      have sj := shift_bd hf j (by omega)
      have stj := ofAll_succ hjl
      have hw2 : IntKind.i64.wrap ((j : Int) + 1) = ((j + 1 : Nat) : Int) := Go.Fr.wrap_succ (by omega)
      rw [C10.toNat_cast, getD_take (by omega) hk, hw2]
      have er : (((decodeL (l.getD j zEdit).2.2.1).length : Nat) : Int) = runes (l.getD j zEdit) := rfl
      rw [er]
      have ej : (ofAll (l.take (j + 1))).2 = (ofAll (l.take j)).2 + runes (l.getD j zEdit) - ((l.getD j zEdit).2.1 - (l.getD j zEdit).1) := by rw [stj]; rfl
      refine ⟨by omega, by omega, ⟨j + 1, by omega, rfl, ?_⟩, ?_⟩
      · simp only
        rw [ej]
        simp only [C10.wrap_eq]
        omega
      · show k - (((j + 1 : Nat) : Int)).toNat < k - (j : Int).toNat
        rw [C10.toNat_cast, C10.toNat_cast]; omega
    · have : j = k := by omega
      subst this
      have er : (((decodeL (l.getD j zEdit).2.2.1).length : Nat) : Int) = runes (l.getD j zEdit) := rfl
      rw [er]
      generalize l.getD j zEdit = x at *
      generalize hsh : (ofAll (l.take j)).2 = sh at *
      have w2 : IntKind.i64.wrap (x.1 + sh + runes x) = x.1 + sh + runes x := by rw [C10.wrap_eq]; omega
      rw [w2]
      have hdec : l.length - (((j + 1 : Nat) : Int)).toNat < l.length - (j : Int).toNat := by rw [C10.toNat_cast, C10.toNat_cast]; omega
      have next : ∀ out : List Chg, addC a (chgOf sh x) = out → ∃ k' : Nat, k' ≤ l.length ∧ ((j + 1 : Nat) : Int) = (k' : Int) ∧ out = (ofAll (l.take k')).1 := fun out e =>
        ⟨j + 1, hlt, rfl, by rw [step, ← e, hs, ← hsh]; rfl⟩
      have one : ∀ c : Chg, [c].length = 1 := fun _ => rfl
      rw [one]
      have ne : ¬ (runes x = 0 ∧ x.1 = x.2.1) → (a.length > 0 → (0 : Int) ≤ IntKind.i64.wrap ((a.length : Int) - 1)) := fun _ g => by rw [C10.wrap_eq]; omega
      have w5 : 0 < a.length → IntKind.i64.wrap ((a.length : Int) - 1) = ((a.length - 1 : Nat) : Int) := fun g => by rw [C10.wrap_eq]; omega
      have c0 : a.length = 0 → IntKind.i64.wrap ((a.length : Int) - 1) = -1 := fun g => by rw [C10.wrap_eq]; omega
      have merge : ¬ (runes x = 0 ∧ x.1 = x.2.1) → 0 < a.length → (a.getD (a.length - 1) zeroC).1.2.1 = x.1 → addC a (chgOf sh x) = a.set (a.length - 1) (((a.getD (a.length - 1) zeroC).1.1, x.2.1, ()), ((a.getD (a.length - 1) zeroC).2.1.1, x.1 + sh + runes x, ()), ()) := fun g1 g2 g3 => by
        unfold addC chgOf
        rw [if_neg (by simp only; omega), if_pos ⟨g2, g3⟩]
      have app : ¬ (runes x = 0 ∧ x.1 = x.2.1) → ¬ (0 < a.length ∧ (a.getD (a.length - 1) zeroC).1.2.1 = x.1) → addC a (chgOf sh x) = a ++ [((x.1, x.2.1, ()), (x.1 + sh, x.1 + sh + runes x, ()), ())] := fun g1 g2 => by
        unfold addC chgOf
        rw [if_neg (by simp only; omega), if_neg g2]
      rcases Nat.eq_zero_or_pos a.length with h0 | h0
      · rw [c0 h0]
        (repeat' (first | apply And.intro | intro _))
        all_goals first
          | omega
          | exact hdec
          | (exact next _ (app (by omega) (by omega)))
          | (refine next _ ?_; unfold addC chgOf; rw [if_pos (by simp only; omega)])
      · rw [w5 h0, C10.toNat_cast]
        simp only [List.length_set]
        rw [set_twice (by omega)]
        (repeat' (first | apply And.intro | intro _))
        all_goals first
          | omega
          | exact hdec
          | (exact next _ (merge (by omega) h0 (by assumption)))
          | (exact next _ (app (by omega) (fun e => by have := e.2; contradiction)))
          | (refine next _ ?_; unfold addC chgOf; rw [if_pos (by simp only; omega)])
  · have : k = l.length := by omega
    subst this
    rw [List.take_length] at hs
    exact hs
end Go.Fr.C10
